/- Texts of a proof: lemmas. -/
import Derived.Test.YtbkjffpembflcaaGreatA8
set_option linter.unusedSimpArgs false
set_option linter.unusedVariables false
set_option maxRecDepth 100000
namespace Go.Proofs
open Go Go.Mu

/-- One outcome more is counted. -/
def stepW (w : List (Int × Int) × Int) (k : Int) : List (Int × Int) × Int := (mset w.1 k ((mget w.1 k).getD 0 + 1), mx w.2 ((mget w.1 k).getD 0 + 1))
def worstS (r : Rd) (sl : Int) (w : List (Int × Int) × Int) (t : List Int) : List (Int × Int) × Int := (showsL r sl t).foldl stepW w
/-- How many truths an outcome leaves at most. -/
def worstL (r : Rd) (sl : Int) (l : List (List Int)) : Int := (l.foldl (worstS r sl) ([], 0)).2
def bW (b : Int) (w : List (Int × Int) × Int) : Prop := (∀ p ∈ w.1, 0 ≤ p.2 ∧ p.2 ≤ b) ∧ 0 ≤ w.2 ∧ w.2 ≤ b
theorem bW_get {b : Int} (hb : 0 ≤ b) {w : List (Int × Int) × Int} (h : bW b w) (k : Int) : 0 ≤ (mget w.1 k).getD 0 ∧ (mget w.1 k).getD 0 ≤ b := by
  cases hg : mget w.1 k with
  | none => simp; exact hb
  | some c => simpa using h.1 _ (mget_mem hg)
theorem bW_step {b : Int} (hb : 0 ≤ b) {w : List (Int × Int) × Int} (h : bW b w) (k : Int) : bW (b + 1) (stepW w k) := by
  have hg := bW_get hb h k
  refine ⟨fun p hp => ?_, ?_⟩
  · rcases mset_mem hp with rfl | hp
    · simp only; omega
    · have := h.1 p hp; omega
  · have := h.2
    simp only [stepW, mx]; split <;> omega
theorem bW_mono {b c : Int} {w : List (Int × Int) × Int} (h : bW b w) (hbc : b ≤ c) : bW c w := ⟨fun p hp => by have := h.1 p hp; omega, by have := h.2; omega⟩
set_option maxHeartbeats 1000000 in
theorem worst_p (r : Rd) (sl : Int) (l : List (List Int)) (hr : okR r) (hsl : 0 ≤ sl ∧ sl ≤ 3) (hl : l.length ≤ 10000) (h3 : ∀ t ∈ l, t.length = 3 ∧ small t) : PureV Tryz.prog 86 [tavs l, rdv r sl] (.int .i64 (worstL r sl l)) := by
  refine PureV.of_ev (E := Tryz.E 38 (fun _ => ([], [])) fs5) (Tryz.envOK 38 (fun _ => ([], [])) fs5 fs5_ok) (.int) Tryz.kp86 Tryz.func86 rfl (by kernel_rfl) (by simp [Tryz.E]) (Callable.of Tryz.func86 (by kernel_rfl) (by kernel_rfl)) (by kernel_rfl) ?_
  intro σ
  simp only [tavs]
  simp -implicitDefEqProofs (maxSteps := 2000000) (disch := omega) only [go_sem, reduceCtorEq, Nat.reduceAdd, Nat.reduceSub, Nat.reduceMul, Nat.reduceLT, Nat.reduceLeDiff, Nat.reduceEqDiff, Nat.reduceBEq, Int.reduceToNat, Int.reduceLT, Int.reduceLE, Int.reduceEq, Int.reduceNeg, Int.reduceAdd, Int.reduceSub, Int.reduceMul, ↓reduceIte, Int.reduceBEq, Int.reduceBNe, tav]
  refine ARun.forS (Tryz.envOK 38 (fun _ => ([], [])) fs5 fs5_ok) l.length (fun i => bW (i * 30001) ((l.take i).foldl (worstS r sl) ([], 0))) (fun i => [(6, .int .i64 ((l.take i).foldl (worstS r sl) ([], 0)).2), (14, .int .i64 i)]) (fun i j => σ ++ (.map (mapI ((l.take i).foldl (worstS r sl) ([], 0)).1) :: j)) [] (by kernel_rfl) rfl (by simp [upd, ins, subF, lookA]) (by simp [bW]) ?_ ?_
  · intro i j hi hp ih
    have hmi : l[i] ∈ l := List.getElem_mem hi
    obtain ⟨h3i, hsi⟩ := h3 _ hmi
    rw [foldl_take _ _ _ _ hi] at ih
    generalize (l.take i).foldl (worstS r sl) ([], 0) = w at hp ih ⊢
    simp -implicitDefEqProofs (maxSteps := 2000000) (disch := omega) only [go_sem, reduceCtorEq, Nat.reduceAdd, Nat.reduceSub, Nat.reduceMul, Nat.reduceLT, Nat.reduceLeDiff, Nat.reduceEqDiff, Nat.reduceBEq, Int.reduceToNat, Int.reduceLT, Int.reduceLE, Int.reduceEq, Int.reduceNeg, Int.reduceAdd, Int.reduceSub, Int.reduceMul, ↓reduceIte, Int.reduceBEq, Int.reduceBNe, tav]
    refine shows_p r sl l[i] hr hsl h3i hsi _ _ ?_
    simp only [tIs]
    have hsl2 := showsL_len (r := r) (sl := sl) (t := l[i])
    simp -implicitDefEqProofs (maxSteps := 2000000) (disch := omega) only [go_sem, reduceCtorEq, Nat.reduceAdd, Nat.reduceSub, Nat.reduceMul, Nat.reduceLT, Nat.reduceLeDiff, Nat.reduceEqDiff, Nat.reduceBEq, Int.reduceToNat, Int.reduceLT, Int.reduceLE, Int.reduceEq, Int.reduceNeg, Int.reduceAdd, Int.reduceSub, Int.reduceMul, ↓reduceIte, Int.reduceBEq, Int.reduceBNe, tav]
    refine ARun.forS (Tryz.envOK 38 (fun _ => ([], [])) fs5 fs5_ok) (showsL r sl l[i]).length (fun i2 => bW (i * 30001 + i2) (((showsL r sl l[i]).take i2).foldl stepW w)) (fun i2 => [(6, .int .i64 (((showsL r sl l[i]).take i2).foldl stepW w).2), (22, .int .i64 i2)]) (fun i2 j => σ ++ (.map (mapI (((showsL r sl l[i]).take i2).foldl stepW w).1) :: j)) _ (by kernel_rfl) rfl (by simp [upd, ins, subF, lookA]) (by simpa using hp) ?_ ?_
    · intro i2 j2 hi2 hp2 ih2
      rw [foldl_take _ _ _ _ hi2] at ih2
      have hb := bW_step (by omega) hp2 (showsL r sl l[i])[i2]
      have hg := bW_get (by omega) hp2 (showsL r sl l[i])[i2]
      generalize ((showsL r sl l[i]).take i2).foldl stepW w = w2 at hp2 ih2 hb hg ⊢
      generalize hkk : (showsL r sl l[i])[i2] = kk at ih2 hb hg
      simp -implicitDefEqProofs (maxSteps := 2000000) (disch := omega) only [go_sem, reduceCtorEq, Nat.reduceAdd, Nat.reduceSub, Nat.reduceMul, Nat.reduceLT, Nat.reduceLeDiff, Nat.reduceEqDiff, Nat.reduceBEq, Int.reduceToNat, Int.reduceLT, Int.reduceLE, Int.reduceEq, Int.reduceNeg, Int.reduceAdd, Int.reduceSub, Int.reduceMul, ↓reduceIte, Int.reduceBEq, Int.reduceBNe, tav, hkk]
      refine (ih2 (bW_mono hb (by simp only [Int.natCast_add, Int.cast_ofNat_Int]; omega)) j2).castS rfl (by simp [upd, ins, subF, lookA, stepW, mx])
    · intro j2 hp2
      rw [List.take_length] at hp2 ⊢
      simp -implicitDefEqProofs (maxSteps := 2000000) (disch := omega) only [go_sem, reduceCtorEq, Nat.reduceAdd, Nat.reduceSub, Nat.reduceMul, Nat.reduceLT, Nat.reduceLeDiff, Nat.reduceEqDiff, Nat.reduceBEq, Int.reduceToNat, Int.reduceLT, Int.reduceLE, Int.reduceEq, Int.reduceNeg, Int.reduceAdd, Int.reduceSub, Int.reduceMul, ↓reduceIte, Int.reduceBEq, Int.reduceBNe, tav]
      refine (ih (bW_mono hp2 (by simp only [Int.natCast_add, Int.cast_ofNat_Int]; omega)) j2).castS rfl (by simp [upd, ins, subF, lookA, worstS])
  · intro j hp
    rw [List.take_length]
    simp -implicitDefEqProofs (maxSteps := 2000000) (disch := omega) only [go_sem, reduceCtorEq, Nat.reduceAdd, Nat.reduceSub, Nat.reduceMul, Nat.reduceLT, Nat.reduceLeDiff, Nat.reduceEqDiff, Nat.reduceBEq, Int.reduceToNat, Int.reduceLT, Int.reduceLE, Int.reduceEq, Int.reduceNeg, Int.reduceAdd, Int.reduceSub, Int.reduceMul, ↓reduceIte, Int.reduceBEq, Int.reduceBNe, tav]
    simp [worstL]
end Go.Proofs
set_option linter.unusedSimpArgs false
set_option linter.unusedVariables false
set_option maxRecDepth 100000
namespace Go.Proofs
open Go Go.Mu

def leastS (num : Rd → Int) (b : Rd × Int) (x : Rd) : Rd × Int := if num x < b.2 then (x, num x) else b
/-- The first one of several readings that has the least number. -/
def leastL (num : Rd → Int) (l : List Rd) : Rd × Int := (l.drop 1).foldl (leastS num) (l.headD default, num (l.headD default))
theorem idx_zero {x : AV} {xs : List AV} : idx (x :: xs) 0 = some x := rfl
theorem rdI_plain {x : Rd} {n : Int} : Plain (.tup [x.av, .int .i64 n]) := .tup (by simp; exact ⟨Rd.plain _, .int⟩)
theorem wk_rdv (r : Rd) (sl : Int) : wk (rdv r sl) (rdv r sl) := by
  unfold rdv; split
  · rfl
  · split <;> rfl
theorem least_c {g : FuncId} {p q : List AV} {σ : List AObj} (num : Rd → Int) (l : List Rd) (hl : l ≠ []) (hl2 : l.length ≤ 4294967296) (hn : ∀ x ∈ l, ClV Tryz.prog g p q σ [x.av] (.int .i64 (num x))) (Q : AV → List AObj → Prop) (h : Q (.tup [(leastL num l).1.av, .int .i64 (leastL num l).2]) σ) :
    ACalls Tryz.prog 83 [.list .no 6 (l.map Rd.av), .fn (.func g) p q] σ Q := by
  obtain ⟨y, l, rfl⟩ : ∃ y l', l = y :: l' := by cases l with | nil => exact absurd rfl hl | cons a b => exact ⟨a, b, rfl⟩
  have hL : leastL num (y :: l) = l.foldl (leastS num) (y, num y) := rfl
  rw [hL] at h
  refine ACalls.clean_ev (E := Tryz.E 37 Tryz.ord83 fs0) (Tryz.envOK 37 Tryz.ord83 fs0 fs0_ok) (rdI_plain _) (h) Tryz.kp83 Tryz.func83 rfl (by kernel_rfl) (by simp [Tryz.E]) (Callable.of Tryz.func83 (by kernel_rfl) (by kernel_rfl)) (by kernel_rfl) ?_
  simp only [List.length_cons] at hl2
  simp only [List.map_cons]
  simp -implicitDefEqProofs (maxSteps := 2000000) (disch := omega) only [go_sem, reduceCtorEq, Nat.reduceAdd, Nat.reduceSub, Nat.reduceMul, Nat.reduceLT, Nat.reduceLeDiff, Nat.reduceEqDiff, Nat.reduceBEq, Int.reduceToNat, Int.reduceLT, Int.reduceLE, Int.reduceEq, Int.reduceNeg, Int.reduceAdd, Int.reduceSub, Int.reduceMul, ↓reduceIte, Int.reduceBEq, Int.reduceBNe, idx_zero, Rd.av]
  refine (hn y (by simp)).app1 ?_
  simp -implicitDefEqProofs (maxSteps := 2000000) (disch := omega) only [go_sem, reduceCtorEq, Nat.reduceAdd, Nat.reduceSub, Nat.reduceMul, Nat.reduceLT, Nat.reduceLeDiff, Nat.reduceEqDiff, Nat.reduceBEq, Int.reduceToNat, Int.reduceLT, Int.reduceLE, Int.reduceEq, Int.reduceNeg, Int.reduceAdd, Int.reduceSub, Int.reduceMul, ↓reduceIte, Int.reduceBEq, Int.reduceBNe, idx_zero, Rd.av]
  refine ARun.forS (Tryz.envOK 37 Tryz.ord83 fs0 fs0_ok) l.length (fun _ => True) (fun i => [(20, .list .no 6 (l.map Rd.av)), (21, .int .i64 l.length), (7, .int .i64 ((l.take i).foldl (leastS num) (y, num y)).2), (22, .int .i64 i)]) (fun i j => σ ++ (.cells (Rd.mk 0 0 0 0 ⟨0, 0⟩).av.cells :: .cells ((l.take i).foldl (leastS num) (y, num y)).1.av.cells :: j)) [] (by kernel_rfl) rfl (by simp [upd, ins, subF, lookA, List.take_of_length_le]) trivial ?_ ?_
  · intro i j hi _ ih
    rw [foldl_take _ _ _ _ hi] at ih
    generalize (l.take i).foldl (leastS num) (y, num y) = b at ih ⊢
    simp -implicitDefEqProofs (maxSteps := 2000000) (disch := omega) only [go_sem, reduceCtorEq, Nat.reduceAdd, Nat.reduceSub, Nat.reduceMul, Nat.reduceLT, Nat.reduceLeDiff, Nat.reduceEqDiff, Nat.reduceBEq, Int.reduceToNat, Int.reduceLT, Int.reduceLE, Int.reduceEq, Int.reduceNeg, Int.reduceAdd, Int.reduceSub, Int.reduceMul, ↓reduceIte, Int.reduceBEq, Int.reduceBNe, Rd.av]
    refine (hn l[i] (by simp)).app1 ?_
    by_cases hc : num l[i] < b.2
    · simp -implicitDefEqProofs (maxSteps := 2000000) (disch := omega) only [go_sem, reduceCtorEq, Nat.reduceAdd, Nat.reduceSub, Nat.reduceMul, Nat.reduceLT, Nat.reduceLeDiff, Nat.reduceEqDiff, Nat.reduceBEq, Int.reduceToNat, Int.reduceLT, Int.reduceLE, Int.reduceEq, Int.reduceNeg, Int.reduceAdd, Int.reduceSub, Int.reduceMul, ↓reduceIte, Int.reduceBEq, Int.reduceBNe, Rd.av]
      refine (ih trivial (j ++ [_])).castS (by simp only [leastS, hc, if_true]; rfl) (by simp [upd, ins, subF, lookA, leastS, hc, Rd.av])
    · simp -implicitDefEqProofs (maxSteps := 2000000) (disch := omega) only [go_sem, reduceCtorEq, Nat.reduceAdd, Nat.reduceSub, Nat.reduceMul, Nat.reduceLT, Nat.reduceLeDiff, Nat.reduceEqDiff, Nat.reduceBEq, Int.reduceToNat, Int.reduceLT, Int.reduceLE, Int.reduceEq, Int.reduceNeg, Int.reduceAdd, Int.reduceSub, Int.reduceMul, ↓reduceIte, Int.reduceBEq, Int.reduceBNe, Rd.av]
      refine (ih trivial (j ++ [_])).castS (by simp only [leastS, hc, if_false]; rfl) (by simp [upd, ins, subF, lookA, leastS, hc, Rd.av])
  · intro j _
    rw [List.take_length]
    simp -implicitDefEqProofs (maxSteps := 2000000) (disch := omega) only [go_sem, reduceCtorEq, Nat.reduceAdd, Nat.reduceSub, Nat.reduceMul, Nat.reduceLT, Nat.reduceLeDiff, Nat.reduceEqDiff, Nat.reduceBEq, Int.reduceToNat, Int.reduceLT, Int.reduceLE, Int.reduceEq, Int.reduceNeg, Int.reduceAdd, Int.reduceSub, Int.reduceMul, ↓reduceIte, Int.reduceBEq, Int.reduceBNe, Rd.av]
theorem best1_v {σ : List AObj} {r1 r2 : Nat} {e : Ear} {l : List (List Int)} {tk : Tok} (hg : hget σ r1 = some (.cells [.list tk 3 (l.map tav)])) (hh : hget σ r2 = some (.cells e.cells)) (hsl : 0 ≤ e.slack ∧ e.slack ≤ 3) (hl : l.length ≤ 10000) (h3 : ∀ t ∈ l, t.length = 3 ∧ small t) {x : Rd} (hx : okR x) :
    ClV Tryz.prog 85 [] [.ptr r1 0, .ptr r2 0] σ [x.av] (.int .i64 (worstL x e.slack l)) := by
  intro σ' hl' hs Q hq
  have hg' : ∀ l, hget (σ' ++ l) r1 = some _ := fun l => by rw [hget_app (by have := hget_lt hg; omega), hs _ (hget_lt hg)]; exact hg
  have hh' : ∀ l, hget (σ' ++ l) r2 = some _ := fun l => by rw [hget_app (by have := hget_lt hh; omega), hs _ (hget_lt hh)]; exact hh
  simp only [List.nil_append, List.cons_append]
  refine ACalls.clean_ev (E := Tryz.E 11 Tryz.ord85 fs5) (Tryz.envOK 11 Tryz.ord85 fs5 fs5_ok) (.int _ _) (hq) Tryz.kp85 Tryz.func85 rfl (by kernel_rfl) (by simp [Tryz.E]) (Callable.of Tryz.func85 (by kernel_rfl) (by kernel_rfl)) (by kernel_rfl) ?_
  simp -implicitDefEqProofs (maxSteps := 2000000) (disch := omega) only [go_sem, reduceCtorEq, Nat.reduceAdd, Nat.reduceSub, Nat.reduceMul, Nat.reduceLT, Nat.reduceLeDiff, Nat.reduceEqDiff, Nat.reduceBEq, Int.reduceToNat, Int.reduceLT, Int.reduceLE, Int.reduceEq, Int.reduceNeg, Int.reduceAdd, Int.reduceSub, Int.reduceMul, ↓reduceIte, Int.reduceBEq, Int.reduceBNe, hg', hh', Rd.av, Ear.cells, giveB_rdv]
  refine ACalls.weaken (l' := [tavs l, rdv x e.slack]) ⟨⟨rfl, .inl rfl, .inl rfl⟩, wk_rdv _ _, trivial⟩ (worst_p x e.slack l hx hsl hl h3 _ _ ?_)
  simp -implicitDefEqProofs (maxSteps := 2000000) (disch := omega) only [go_sem, reduceCtorEq, Nat.reduceAdd, Nat.reduceSub, Nat.reduceMul, Nat.reduceLT, Nat.reduceLeDiff, Nat.reduceEqDiff, Nat.reduceBEq, Int.reduceToNat, Int.reduceLT, Int.reduceLE, Int.reduceEq, Int.reduceNeg, Int.reduceAdd, Int.reduceSub, Int.reduceMul, ↓reduceIte, Int.reduceBEq, Int.reduceBNe]
end Go.Proofs
set_option linter.unusedSimpArgs false
set_option linter.unusedVariables false
set_option maxRecDepth 100000
namespace Go.Proofs
open Go Go.Mu

/-- What a reading can show, and the truths that it leaves then. -/
def pushO (t : List Int) (m : List (Int × List (List Int))) (k : Int) : List (Int × List (List Int)) := mset m k ((mget m k).getD [] ++ [t])
def outS (r : Rd) (sl : Int) (m : List (Int × List (List Int))) (t : List Int) : List (Int × List (List Int)) := (showsL r sl t).foldl (pushO t) m
def outcomesL (r : Rd) (sl : Int) (l : List (List Int)) : List (Int × List (List Int)) := l.foldl (outS r sl) []
abbrev MT := List (Int × (Nat × List (List Int)))
def mapT (m : MT) : List (AV × AV) := m.map fun p => (AV.int .i64 p.1, AV.list (.own p.2.1) 3 (p.2.2.map tav))
def strip (m : MT) : List (Int × List (List Int)) := m.map fun p => (p.1, p.2.2)
theorem fIdx_strip {k : Int} : ∀ {m : MT} {i : Nat}, fIdx k (strip m) i = (fIdx k m i).map fun q => (q.1, q.2.2)
  | [], _ => rfl
  | (k', v) :: m, i => by
    simp only [strip, List.map_cons, fIdx]
    split
    · rfl
    · exact fIdx_strip (m := m)
theorem mget_strip {k : Int} {m : MT} : mget (strip m) k = (mget m k).map (·.2) := by
  unfold mget; rw [fIdx_strip]; cases fIdx k m 0 <;> rfl
theorem strip_mset {k : Int} {m : MT} {v : Nat × List (List Int)} : strip (mset m k v) = mset (strip m) k v.2 := by
  unfold mset; rw [fIdx_strip]
  cases fIdx k m 0 with
  | none => simp [strip]
  | some q => simp [strip, List.map_set]
theorem lookT_none {m : MT} {k : Int} {σ : List AObj} (h : mget m k = none) : lookR false (.list .full 0 []) σ (findA (.int .i64 k) (mapT m) 0) = some (.list .full 0 [], σ) := by
  have := lookR_map (f := fun v : Nat × List (List Int) => AV.list (.own v.1) 3 (v.2.map tav)) (m := m) (k := k) (ok := false) (z := .list .full 0 []) (σ := σ)
  unfold mapT; rw [this, h]; rfl
theorem lookT_some {m : MT} {k : Int} {σ : List AObj} {v : Nat × List (List Int)} (h : mget m k = some v) : lookR false (.list .full 0 []) σ (findA (.int .i64 k) (mapT m) 0) = some (.list (.own v.1) 3 (v.2.map tav), σ) := by
  have := lookR_map (f := fun v : Nat × List (List Int) => AV.list (.own v.1) 3 (v.2.map tav)) (m := m) (k := k) (ok := false) (z := .list .full 0 []) (σ := σ)
  unfold mapT; rw [this, h]; rfl
theorem updT {m : MT} {k : Int} {r id : Nat} {ts : List (List Int)} {xs : List AV} {σ : List AObj} (h : xs = ts.map tav) : updR r (mapT m) (.int .i64 k) (.list (.own id) 3 xs) σ (findA (.int .i64 k) (mapT m) 0) = some (.tup [], hset σ r (.map (mapT (mset m k (id, ts))))) := by
  subst h
  exact updR_map (f := fun v : Nat × List (List Int) => AV.list (.own v.1) 3 (v.2.map tav)) (v := (id, ts))
/-- The objects of the outcomes. -/
structure OutOK (B : Nat) (σ : List AObj) (m : MT) (τ : List AObj) : Prop where
  len : σ.length < τ.length
  old : ∀ k, k < σ.length → hget τ k = hget σ k
  map : hget τ σ.length = some (.map (mapT m))
  tl : ∀ p ∈ m, σ.length < p.2.1 ∧ hget τ p.2.1 = some (.tail p.2.2.length 3) ∧ p.2.2.length ≤ B
  nd : (m.map fun p => p.2.1).Nodup
theorem OutOK.lt {B : Nat} {σ : List AObj} {m : MT} {τ : List AObj} (h : OutOK B σ m τ) {p : Int × (Nat × List (List Int))} (hp : p ∈ m) : p.2.1 < τ.length := hget_lt (h.tl p hp).2.1
theorem OutOK.app {B : Nat} {σ : List AObj} {m : MT} {τ l : List AObj} (h : OutOK B σ m τ) : OutOK B σ m (τ ++ l) :=
  ⟨by have := h.len; simp; omega, fun k hk => by rw [hget_app (by have := h.len; omega)]; exact h.old k hk, by rw [hget_app h.len]; exact h.map, fun p hp => ⟨(h.tl p hp).1, by rw [hget_app (h.lt hp)]; exact (h.tl p hp).2.1, (h.tl p hp).2.2⟩, h.nd⟩
theorem OutOK.mono {B C : Nat} {σ : List AObj} {m : MT} {τ : List AObj} (h : OutOK B σ m τ) (hc : B ≤ C) : OutOK C σ m τ := ⟨h.len, h.old, h.map, fun p hp => ⟨(h.tl p hp).1, (h.tl p hp).2.1, Nat.le_trans (h.tl p hp).2.2 hc⟩, h.nd⟩
/-- A new outcome. -/
theorem OutOK.new {B : Nat} (hB : 1 ≤ B) {σ : List AObj} {m : MT} {τ : List AObj} (h : OutOK B σ m τ) {k : Int} {t : List Int} (hg : mget m k = none) : OutOK B σ (mset m k (τ.length, [t])) (hset (τ ++ [.tail 1 3]) σ.length (.map (mapT (mset m k (τ.length, [t]))))) := by
  have hf : fIdx k m 0 = none := by unfold mget at hg; cases hx : fIdx k m 0 with | none => rfl | some q => rw [hx] at hg; cases hg
  have hm : mset m k (τ.length, [t]) = m ++ [(k, (τ.length, [t]))] := by unfold mset; rw [hf]
  have hl := h.len
  refine ⟨by rw [length_hset]; simp; omega, fun q hq => by rw [hget_ne (by omega), hget_app (by omega)]; exact h.old q hq, hget_set (by rw [hget_app hl]; exact h.map) _, fun p hp => ?_, ?_⟩
  · rw [hm] at hp
    rcases List.mem_append.1 hp with hp | hp
    · have h2 := h.tl p hp
      have h3 := h.lt hp
      exact ⟨h2.1, by rw [hget_ne (by omega), hget_app h3]; exact h2.2.1, h2.2.2⟩
    · simp at hp; subst hp
      exact ⟨hl, by rw [hget_ne (by simp only; omega)]; exact hget_at0, hB⟩
  · rw [hm, List.map_append, List.nodup_append]
    refine ⟨h.nd, by simp, fun a ha b hb => ?_⟩
    simp at hb; subst hb
    obtain ⟨p, hp, rfl⟩ := List.mem_map.1 ha
    have := h.lt hp
    omega
/-- An outcome once more. -/
theorem OutOK.more {B : Nat} {σ : List AObj} {m : MT} {τ : List AObj} (h : OutOK B σ m τ) {k : Int} {t : List Int} {id : Nat} {ts : List (List Int)} (hg : mget m k = some (id, ts)) :
    OutOK (B + 1) σ (mset m k (id, ts ++ [t])) (hset (hset τ id (.tail (ts.length + 1) 3)) σ.length (.map (mapT (mset m k (id, ts ++ [t]))))) := by
  obtain ⟨j, hf⟩ : ∃ j, fIdx k m 0 = some (j, (id, ts)) := by
    unfold mget at hg
    cases hx : fIdx k m 0 with
    | none => rw [hx] at hg; cases hg
    | some q => obtain ⟨j, v⟩ := q; rw [hx] at hg; simp at hg; subst hg; exact ⟨j, rfl⟩
  have hm : mset m k (id, ts ++ [t]) = m.set j (k, (id, ts ++ [t])) := by unfold mset; rw [hf]
  have hj := (fIdx_get hf).2
  simp only [Nat.sub_zero] at hj
  have hl := h.len
  have hmem : (k, (id, ts)) ∈ m := List.mem_of_getElem? hj
  obtain ⟨i1, i2, i3⟩ := h.tl _ hmem
  simp only at i1 i2 i3
  obtain ⟨hjl, hje⟩ := List.getElem?_eq_some_iff.1 hj
  refine ⟨by simp only [length_hset]; exact hl, fun q hq => by rw [hget_ne (by omega), hget_ne (by omega)]; exact h.old q hq, hget_set (by rw [hget_ne (by omega)]; exact h.map) _, fun p hp => ?_, ?_⟩
  · rw [hm] at hp
    obtain ⟨i, hi, rfl⟩ := List.mem_iff_getElem.1 hp
    rw [List.getElem_set]
    by_cases e : j = i
    · rw [if_pos e]
      exact ⟨i1, by simp only; rw [hget_ne (by omega)]; simpa using hget_set i2 _, by simp; omega⟩
    · rw [if_neg e]
      have hi' : i < m.length := by simpa using hi
      have h2 := h.tl _ (List.getElem_mem hi')
      have hne : m[i].2.1 ≠ id := fun e2 => by
        have := h.nd
        rw [List.nodup_iff_pairwise_ne, List.pairwise_iff_getElem] at this
        rcases Nat.lt_or_gt_of_ne e with h4 | h4
        · have := this j i (by simpa using hjl) (by simpa using hi') h4
          simp [hje] at this; exact this e2.symm
        · have := this i j (by simpa using hi') (by simpa using hjl) h4
          simp [hje] at this; exact this e2
      exact ⟨h2.1, by rw [hget_ne (by omega), hget_ne (fun e2 => hne e2.symm)]; exact h2.2.1, by omega⟩
  · have : (mset m k (id, ts ++ [t])).map (fun p => p.2.1) = m.map fun p => p.2.1 := by
      rw [hm, List.map_set]
      apply List.ext_getElem?
      intro i
      rw [List.getElem?_set]
      by_cases e : j = i
      · subst e; simp [hjl, hje]
      · simp [e]
    rw [this]; exact h.nd
set_option maxHeartbeats 1000000 in
theorem outcomes_c (r : Rd) (sl : Int) (l : List (List Int)) (hr : okR r) (hsl : 0 ≤ sl ∧ sl ≤ 3) (hl : l.length ≤ 10000) (h3 : ∀ t ∈ l, t.length = 3 ∧ small t) (σ : List AObj) (Q : AV → List AObj → Prop) (h : ∀ τ m, OutOK 300010000 σ m τ → strip m = outcomesL r sl l → Q (.map σ.length) τ) :
    ACalls Tryz.prog 80 [tavs l, rdv r sl] σ Q := by
  refine ACalls.of_ev (E := Tryz.E 36 (fun _ => ([], [])) fs5) (Tryz.envOK 36 (fun _ => ([], [])) fs5 fs5_ok) Tryz.kp80 Tryz.func80 rfl (by kernel_rfl) (by simp [Tryz.E]) (Callable.of Tryz.func80 (by kernel_rfl) (by kernel_rfl)) (by kernel_rfl) ?_
  simp only [tavs]
  simp -implicitDefEqProofs (maxSteps := 2000000) (disch := omega) only [go_sem, reduceCtorEq, Nat.reduceAdd, Nat.reduceSub, Nat.reduceMul, Nat.reduceLT, Nat.reduceLeDiff, Nat.reduceEqDiff, Nat.reduceBEq, Int.reduceToNat, Int.reduceLT, Int.reduceLE, Int.reduceEq, Int.reduceNeg, Int.reduceAdd, Int.reduceSub, Int.reduceMul, ↓reduceIte, Int.reduceBEq, Int.reduceBNe, tav]
  refine ARun.forJ (Tryz.envOK 36 (fun _ => ([], [])) fs5 fs5_ok) l.length (fun i τ => ∃ m, OutOK (i * 30001) σ m τ ∧ strip m = (l.take i).foldl (outS r sl) []) (fun i => [(13, .int .i64 i)]) (by kernel_rfl) (by simp [upd, ins, subF, lookA]) ⟨[], ⟨by simp, fun k hk => hget_app hk, hget_at0, by simp, by simp⟩, rfl⟩ ?_ ?_
  · rintro i τ hi ⟨m, hO, hm⟩ ih
    have hmi : l[i] ∈ l := List.getElem_mem hi
    obtain ⟨h3i, hsi⟩ := h3 _ hmi
    rw [foldl_take _ _ _ _ hi, ← hm] at ih
    simp -implicitDefEqProofs (maxSteps := 2000000) (disch := omega) only [go_sem, reduceCtorEq, Nat.reduceAdd, Nat.reduceSub, Nat.reduceMul, Nat.reduceLT, Nat.reduceLeDiff, Nat.reduceEqDiff, Nat.reduceBEq, Int.reduceToNat, Int.reduceLT, Int.reduceLE, Int.reduceEq, Int.reduceNeg, Int.reduceAdd, Int.reduceSub, Int.reduceMul, ↓reduceIte, Int.reduceBEq, Int.reduceBNe, tav]
    refine shows_p r sl l[i] hr hsl h3i hsi _ _ ?_
    simp only [tIs]
    have hsl2 := showsL_len (r := r) (sl := sl) (t := l[i])
    simp -implicitDefEqProofs (maxSteps := 2000000) (disch := omega) only [go_sem, reduceCtorEq, Nat.reduceAdd, Nat.reduceSub, Nat.reduceMul, Nat.reduceLT, Nat.reduceLeDiff, Nat.reduceEqDiff, Nat.reduceBEq, Int.reduceToNat, Int.reduceLT, Int.reduceLE, Int.reduceEq, Int.reduceNeg, Int.reduceAdd, Int.reduceSub, Int.reduceMul, ↓reduceIte, Int.reduceBEq, Int.reduceBNe, tav]
    refine ARun.forJ (Tryz.envOK 36 (fun _ => ([], [])) fs5 fs5_ok) (showsL r sl l[i]).length (fun i2 τ2 => ∃ m2, OutOK (i * 30001 + i2) σ m2 τ2 ∧ strip m2 = ((showsL r sl l[i]).take i2).foldl (pushO l[i]) (strip m) ∧ hget τ2 τ.length = some (.cells (l[i].map (AV.int .i64)))) (fun i2 => [(21, .int .i64 i2)]) (by kernel_rfl) (by simp [upd, ins, subF, lookA]) ⟨m, hO.app, rfl, hget_at0⟩ ?_ ?_
    · rintro i2 τ2 hi2 ⟨m2, hO2, hm2, hb⟩ ih2
      rw [foldl_take _ _ _ _ hi2, ← hm2] at ih2
      generalize hkk : (showsL r sl l[i])[i2] = kk at ih2
      have hmap := hO2.map
      cases hg : mget m2 kk with
      | none =>
        have hmap' : ∀ l, hget (τ2 ++ l) σ.length = some (.map (mapT m2)) := fun l => by rw [hget_app hO2.len]; exact hmap
        have hu : ∀ r id σ, updR r (mapT m2) (.int .i64 kk) (.list (.own id) 3 [.agg (l[i].map (AV.int .i64))]) σ (findA (.int .i64 kk) (mapT m2) 0) = some (.tup [], hset σ r (.map (mapT (mset m2 kk (id, [l[i]]))))) := fun _ _ _ => updT rfl
        simp -implicitDefEqProofs (maxSteps := 2000000) (disch := omega) only [go_sem, reduceCtorEq, Nat.reduceAdd, Nat.reduceSub, Nat.reduceMul, Nat.reduceLT, Nat.reduceLeDiff, Nat.reduceEqDiff, Nat.reduceBEq, Int.reduceToNat, Int.reduceLT, Int.reduceLE, Int.reduceEq, Int.reduceNeg, Int.reduceAdd, Int.reduceSub, Int.reduceMul, ↓reduceIte, Int.reduceBEq, Int.reduceBNe, tav, hkk, hmap, hmap', hb, lookT_none hg, hu]
        have hbl := hget_lt hb
        have hτ : σ.length < τ.length := hO.len
        refine (ih2 _ ⟨_, (hO2.mono (by omega)).new (by omega) hg, ?_, ?_⟩).castS rfl (by simp [upd, ins, subF, lookA])
        · rw [strip_mset, pushO, mget_strip, hg]; rfl
        · rw [hget_ne (by omega), hget_app hbl]; exact hb
      | some v =>
        obtain ⟨id, ts⟩ := v
        obtain ⟨t1, t2, t3⟩ := hO2.tl _ (mget_mem hg)
        simp only at t1 t2 t3
        have hu : ∀ r id σ, updR r (mapT m2) (.int .i64 kk) (.list (.own id) 3 (ts.map tav ++ [.agg (l[i].map (AV.int .i64))])) σ (findA (.int .i64 kk) (mapT m2) 0) = some (.tup [], hset σ r (.map (mapT (mset m2 kk (id, ts ++ [l[i]]))))) := fun _ _ _ => updT (by simp [tav])
        have hmap' : ∀ o, hget (hset τ2 id o) σ.length = some (.map (mapT m2)) := fun o => by rw [hget_ne (by omega)]; exact hmap
        simp -implicitDefEqProofs (maxSteps := 2000000) (disch := omega) only [go_sem, reduceCtorEq, Nat.reduceAdd, Nat.reduceSub, Nat.reduceMul, Nat.reduceLT, Nat.reduceLeDiff, Nat.reduceEqDiff, Nat.reduceBEq, Int.reduceToNat, Int.reduceLT, Int.reduceLE, Int.reduceEq, Int.reduceNeg, Int.reduceAdd, Int.reduceSub, Int.reduceMul, ↓reduceIte, Int.reduceBEq, Int.reduceBNe, tav, hkk, hmap, hmap', hb, lookT_some hg, hu, t2]
        have hbl := hget_lt hb
        have hτ : σ.length < τ.length := hO.len
        have hne : id ≠ τ.length := fun e => by rw [e] at t2; rw [hb] at t2; cases t2
        refine (ih2 _ ⟨_, (hO2.more hg).mono (by omega), ?_, ?_⟩).castS rfl (by simp [upd, ins, subF, lookA])
        · rw [strip_mset, pushO, mget_strip, hg]; rfl
        · rw [hget_ne (by omega), hget_ne hne]; exact hb
    · rintro τ2 ⟨m2, hO2, hm2, hb⟩
      rw [List.take_length] at hm2
      simp -implicitDefEqProofs (maxSteps := 2000000) (disch := omega) only [go_sem, reduceCtorEq, Nat.reduceAdd, Nat.reduceSub, Nat.reduceMul, Nat.reduceLT, Nat.reduceLeDiff, Nat.reduceEqDiff, Nat.reduceBEq, Int.reduceToNat, Int.reduceLT, Int.reduceLE, Int.reduceEq, Int.reduceNeg, Int.reduceAdd, Int.reduceSub, Int.reduceMul, ↓reduceIte, Int.reduceBEq, Int.reduceBNe, tav]
      refine (ih τ2 ⟨m2, hO2.mono (by rw [Nat.succ_mul]; omega), hm2⟩).castS rfl (by simp [upd, ins, subF, lookA])
  · rintro τ ⟨m, hO, hm⟩
    rw [List.take_length] at hm
    simp -implicitDefEqProofs (maxSteps := 2000000) (disch := omega) only [go_sem, reduceCtorEq, Nat.reduceAdd, Nat.reduceSub, Nat.reduceMul, Nat.reduceLT, Nat.reduceLeDiff, Nat.reduceEqDiff, Nat.reduceBEq, Int.reduceToNat, Int.reduceLT, Int.reduceLE, Int.reduceEq, Int.reduceNeg, Int.reduceAdd, Int.reduceSub, Int.reduceMul, ↓reduceIte, Int.reduceBEq, Int.reduceBNe, tav]
    exact h τ m (hO.mono (by omega)) hm
end Go.Proofs
set_option linter.unusedSimpArgs false
set_option linter.unusedVariables false
set_option maxRecDepth 100000
namespace Go.Proofs
open Go Go.Mu

theorem nil_keep {r : Rd} {sl : Int} {t : List Int} {m : List (Int × List (List Int))} (h : ∀ p ∈ m, p.2 ≠ []) : ∀ p ∈ outS r sl m t, p.2 ≠ [] := by
  unfold outS
  generalize showsL r sl t = ks
  induction ks generalizing m with
  | nil => exact h
  | cons k ks ih =>
    refine ih (m := pushO t m k) fun p hp => ?_
    rcases mset_mem hp with rfl | hp
    · simp
    · exact h p hp
/-- What is left by an outcome are some of the truths, and not none. -/
theorem outcomes_sub {r : Rd} {sl : Int} {l : List (List Int)} : ∀ p ∈ outcomesL r sl l, p.2 ≠ [] ∧ ∀ t ∈ p.2, t ∈ l := by
  have key : ∀ (l0 : List (List Int)) (m : List (Int × List (List Int))), (∀ p ∈ m, p.2 ≠ [] ∧ ∀ t ∈ p.2, t ∈ l) → (∀ t ∈ l0, t ∈ l) → ∀ p ∈ l0.foldl (outS r sl) m, p.2 ≠ [] ∧ ∀ t ∈ p.2, t ∈ l := by
    intro l0
    induction l0 with
    | nil => intro m h _; exact h
    | cons t l0 ih =>
      intro m h ht
      refine ih (outS r sl m t) ?_ (fun u hu => ht u (by simp [hu]))
      have htl := ht t (by simp)
      unfold outS
      generalize showsL r sl t = ks
      clear ih
      induction ks generalizing m with
      | nil => exact h
      | cons k ks ih =>
        refine ih (m := pushO t m k) fun p hp => ?_
        rcases mset_mem hp with rfl | hp
        · refine ⟨by simp, fun u hu => ?_⟩
          rcases List.mem_append.1 hu with hu | hu
          · cases hg : mget m k with
            | none => rw [hg] at hu; simp at hu
            | some v => rw [hg] at hu; exact (h _ (mget_mem hg)).2 u hu
          · simp at hu; subst hu; exact htl
        · exact h p hp
  exact key l [] (by simp) (fun t ht => ht)
/-- Whether a count over s seconds leaves a tongue known within a width, whatever it shows. -/
def gateS (sl : Int) (l : List (List Int)) (x width s : Int) : Bool := (outcomesL ⟨1, x, 0, s, ⟨0, 0⟩⟩ sl l).all fun p => decide ((spanL (fun t => tg t x) p.2).hi - (spanL (fun t => tg t x) p.2).lo ≤ width)
def gateW (m x width : Int) : Int := if 0 ≤ x ∧ x ≤ m - 1 then (if width < 0 then 1 else 0) else 3
def gateL (e : Ear) (x width : Int) : Int × Int :=
  if (askL e (gateW e.tones.length x width)).2 = 0 then
    (match (List.range 20).find? (fun k : Nat => gateS e.slack (truthsL e) x width (k + 1)) with
    | some k => ((k : Int) + 1, 0)
    | none => (0, 11))
  else (0, (askL e (gateW e.tones.length x width)).2)
theorem find_range {f : Nat → Bool} {i n : Nat} (hi : i < n) (h : ∀ k, k < i → f k = false) (hf : f i = true) : (List.range n).find? f = some i := by
  rw [List.find?_range_eq_some]
  exact ⟨hf, by simpa using hi, fun j hj => by simp [h j hj]⟩
theorem find_none {f : Nat → Bool} {n : Nat} (h : ∀ k, k < n → f k = false) : (List.range n).find? f = none := by
  rw [List.find?_eq_none]
  intro x hx
  simp at hx
  simp [h x hx]
theorem spanL_bound {l : List (List Int)} (h : ∀ t ∈ l, small t) (hl : l ≠ []) (x : Int) : 0 ≤ (spanL (fun t => tg t x) l).lo ∧ (spanL (fun t => tg t x) l).lo ≤ 1000000 ∧ 0 ≤ (spanL (fun t => tg t x) l).hi ∧ (spanL (fun t => tg t x) l).hi ≤ 1000000 := by
  have key : ∀ (l : List (List Int)) (y : Rng), (∀ t ∈ l, small t) → (0 ≤ y.lo ∧ y.lo ≤ 1000000 ∧ 0 ≤ y.hi ∧ y.hi ≤ 1000000) → (0 ≤ (l.foldl (spanS fun t => tg t x) y).lo ∧ (l.foldl (spanS fun t => tg t x) y).lo ≤ 1000000 ∧ 0 ≤ (l.foldl (spanS fun t => tg t x) y).hi ∧ (l.foldl (spanS fun t => tg t x) y).hi ≤ 1000000) := by
    intro l
    induction l with
    | nil => intro y _ hy; exact hy
    | cons t l ih =>
      intro y ht hy
      refine ih _ (fun u hu => ht u (by simp [hu])) ?_
      have := small_tg (ht t (by simp)) x
      simp only [spanS, mn, mx]
      refine ⟨?_, ?_, ?_, ?_⟩ <;> split <;> omega
  obtain ⟨t, l, rfl⟩ : ∃ t l', l = t :: l' := by cases l with | nil => exact absurd rfl hl | cons a b => exact ⟨a, b, rfl⟩
  have := small_tg (h t (by simp)) x
  exact key _ _ h (by simp only [List.headD_cons]; omega)
theorem ARun.loopJ {E : Env} (hE : EnvOK E) {ro : Option Nat} {c : Code} {k : List Item} {kp : Nat → Bool} {tm sl : List (Nat × AV)} {σ : List AObj} {Q : Post} {α : Type} (m : α → Nat) (J : α → List AObj → Prop) (lv : α → List (Nat × AV)) (x0 : α)
    (hO : todoOK E (.code c :: .inLoop c :: k) = true) (h0 : subF (upd sl (lv x0)) sl) (hJ : J x0 σ)
    (hs : ∀ x τ, J x τ → (∀ y τ', m y < m x → J y τ' → ARun E ro (.inLoop c :: k) ⟨kp, [], upd sl (lv y)⟩ τ' Q) → ev E ro 100000 (.code c :: .inLoop c :: k) ⟨kp, [], upd sl (lv x)⟩ τ Q) : ARun E ro (.code (.loop c) :: k) ⟨kp, tm, sl⟩ σ Q := by
  have key : ∀ n x τ, m x = n → J x τ → ARun E ro (.code c :: .inLoop c :: k) ⟨kp, [], upd sl (lv x)⟩ τ Q := by
    intro n
    induction n using Nat.strongRecOn with
    | _ n ih =>
      intro x τ hm hj
      exact ev_sound hE hO (hs x τ hj fun y τ' hlt hy => .inLoop (ih (m y) (by omega) y τ' rfl hy))
  exact .loop (ARun.sub (key _ x0 σ rfl hJ) h0)
theorem nextA_intro {X : AV → List AObj → Prop} {τ : List AObj} {r q c : Nat} {seen : List Nat} {es : List (AV × AV)} (hg : hget τ r = some (.iter (some q) c seen)) (hq : hget τ q = some (.map es)) (hc : c = es.length)
    (h1 : ∀ i k v, es[i]? = some (k, v) → i ∉ seen → X (.tup [.bool true, k, v]) (hset τ r (.iter (some q) c (seen ++ [i])))) (h2 : (∀ i, i < es.length → i ∈ seen) → X (.tup [.bool false]) τ) : nextA X τ (some (.ptr r 0)) := by
  unfold nextA
  simp only [hg, hq]
  exact ⟨hc, h1, h2⟩
theorem nodup_lt : ∀ {n : Nat} {l : List Nat}, l.Nodup → (∀ i ∈ l, i < n) → l.length ≤ n
  | 0, l, _, hl => by
    cases l with
    | nil => simp
    | cons a l => have := hl a (by simp); omega
  | n + 1, l, h, hl => by
    by_cases hm : n ∈ l
    · have h1 : (l.erase n).length ≤ n := nodup_lt (h.erase n) fun i hi => by
        have h2 := hl i (List.mem_of_mem_erase hi)
        have h3 : i ≠ n := (List.Nodup.mem_erase_iff h).1 hi |>.1
        omega
      rw [List.length_erase_of_mem hm] at h1
      omega
    · have := nodup_lt h fun i hi => by
        have h2 := hl i hi
        have h3 : i ≠ n := fun e => hm (e ▸ hi)
        show i < n
        omega
      omega
end Go.Proofs
