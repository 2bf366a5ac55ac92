/- Texts of a proof: lemmas. -/
import Derived.Test.YtbkjffpembflcaaBC
import Derived.Test.YtbkjffpembflcaaA37
import Derived.Test.YtbkjffpembflcaaA34
import Derived.Test.YtbkjffpembflcaaA36
import Derived.Test.YtbkjffpembflcaaA25
set_option linter.unusedSimpArgs false
set_option linter.unusedVariables false
set_option maxRecDepth 100000
namespace Go.Proofs
open Go Go.Mu

/-- The next round of a loop. -/
theorem ARun.again {E : Env} (hE : EnvOK E) {ro : Option Nat} {c : Code} {k : List Item} {kp : Nat → Bool} {tm sl : List (Nat × AV)} {σ : List AObj} {Q : Post}
    (hO : todoOK E (.code c :: .inLoop c :: k) = true) (h : ev E ro 100000 (.code c :: .inLoop c :: k) ⟨kp, [], sl⟩ σ Q) : ARun E ro (.inLoop c :: k) ⟨kp, tm, sl⟩ σ Q :=
  ARun.anew (fr := ⟨kp, tm, sl⟩) (.inLoop (ev_sound hE hO h))
def cntLo (sl n : Int) : Int := if 0 < n / 100 - sl then n / 100 - sl else 0
def cntHi (sl n : Int) : Int := if n / 100 + sl + (if n % 100 = 0 then 0 else 1) < 25000 then n / 100 + sl + (if n % 100 = 0 then 0 else 1) else 25000
/-- From where to where a reading can show. -/
def markR (r : Rd) (sl : Int) (t : List Int) : Rng :=
  if r.kind = 1 then ⟨cntLo sl (tg t r.a * r.sec), cntHi sl (tg t r.a * r.sec)⟩
  else if r.kind = 2 then ⟨dist (tg t r.a) (tg t r.b) * r.sec / 100, dist (tg t r.a) (tg t r.b) * r.sec / 100⟩
  else if tg t r.b < tg t r.a then ⟨1, 1⟩ else ⟨0, 0⟩
theorem mark_shows {r : Rd} {sl c : Int} {t : List Int} (hsl : 0 ≤ sl) (hn : 0 ≤ tg t r.a * r.sec) : c ∈ showsL r sl t ↔ (markR r sl t).lo ≤ c ∧ c ≤ (markR r sl t).hi := by
  by_cases h1 : r.kind = 1
  · rw [mem_shows_count h1 hsl hn]
    have hi : isR (withS r c) sl t = true ↔ 100 * (c - 1 - sl) < tg t r.a * r.sec ∧ tg t r.a * r.sec < 100 * (c + 1 + sl) := by
      unfold isR withS
      simp only [h1, if_true]
      exact decide_eq_true_iff
    rw [hi]
    unfold markR
    rw [if_pos h1]
    simp only [cntLo, cntHi]
    generalize tg t r.a * r.sec = n at hn
    split <;> split <;> split at * <;> omega
  · unfold markR showsL
    rw [if_neg h1, if_neg h1]
    by_cases h2 : r.kind = 2
    · rw [if_pos h2, if_pos h2]; simp; omega
    · rw [if_neg h2, if_neg h2]
      have hi : isR r sl t = decide (tg t r.b < tg t r.a) := by unfold isR; rw [if_neg h1, if_neg h2]
      rw [hi]
      by_cases h3 : tg t r.b < tg t r.a
      · simp [h3]; omega
      · simp [h3]; omega
/-- What an outcome leaves. -/
def outR (r : Rd) (sl : Int) (L : List (List Int)) (c : Int) : List (List Int) := L.filter fun t => decide ((markR r sl t).lo ≤ c ∧ c ≤ (markR r sl t).hi)
def mostR (r : Rd) (sl : Int) (L : List (List Int)) : Int := L.foldl (fun m t => mx m (markR r sl t).hi) 0
def leastR (r : Rd) (sl : Int) (L : List (List Int)) : Int := L.foldl (fun m t => mn m (markR r sl t).lo) (mostR r sl L)
def outsN (r : Rd) (sl : Int) (L : List (List Int)) (n : Nat) : List (List (List Int)) := ((List.range n).map fun (k : Nat) => outR r sl L (leastR r sl L + k)).filter fun l => !l.isEmpty
/-- What all outcomes leave. -/
def outsR (r : Rd) (sl : Int) (L : List (List Int)) : List (List (List Int)) := outsN r sl L (mostR r sl L - leastR r sl L + 1).toNat
theorem foldMx {f : List Int → Int} : ∀ {L : List (List Int)} {b : Int}, b ≤ L.foldl (fun m t => mx m (f t)) b ∧ (∀ t ∈ L, f t ≤ L.foldl (fun m t => mx m (f t)) b) ∧ (L.foldl (fun m t => mx m (f t)) b = b ∨ ∃ t ∈ L, L.foldl (fun m t => mx m (f t)) b = f t)
  | [], b => ⟨Int.le_refl _, fun t h => absurd h (by simp), .inl rfl⟩
  | a :: L, b => by
    obtain ⟨h1, h2, h3⟩ := foldMx (f := f) (L := L) (b := mx b (f a))
    have hm : b ≤ mx b (f a) ∧ f a ≤ mx b (f a) ∧ (mx b (f a) = b ∨ mx b (f a) = f a) := by unfold mx; split <;> omega
    simp only [List.foldl_cons]
    refine ⟨by omega, fun t ht => ?_, ?_⟩
    · rcases List.mem_cons.1 ht with rfl | ht
      · omega
      · exact h2 t ht
    · rcases h3 with h3 | ⟨t, ht, h3⟩
      · rcases hm.2.2 with h | h
        · exact .inl (by omega)
        · exact .inr ⟨a, by simp, by omega⟩
      · exact .inr ⟨t, by simp [ht], h3⟩
theorem foldMn {f : List Int → Int} : ∀ {L : List (List Int)} {b : Int}, L.foldl (fun m t => mn m (f t)) b ≤ b ∧ (∀ t ∈ L, L.foldl (fun m t => mn m (f t)) b ≤ f t) ∧ (L.foldl (fun m t => mn m (f t)) b = b ∨ ∃ t ∈ L, L.foldl (fun m t => mn m (f t)) b = f t)
  | [], b => ⟨Int.le_refl _, fun t h => absurd h (by simp), .inl rfl⟩
  | a :: L, b => by
    obtain ⟨h1, h2, h3⟩ := foldMn (f := f) (L := L) (b := mn b (f a))
    have hm : mn b (f a) ≤ b ∧ mn b (f a) ≤ f a ∧ (mn b (f a) = b ∨ mn b (f a) = f a) := by unfold mn; split <;> omega
    simp only [List.foldl_cons]
    refine ⟨by omega, fun t ht => ?_, ?_⟩
    · rcases List.mem_cons.1 ht with rfl | ht
      · omega
      · exact h2 t ht
    · rcases h3 with h3 | ⟨t, ht, h3⟩
      · rcases hm.2.2 with h | h
        · exact .inl (by omega)
        · exact .inr ⟨a, by simp, by omega⟩
      · exact .inr ⟨t, by simp [ht], h3⟩
/-- Which lists are left by some outcome. -/
theorem mem_outsR {r : Rd} {sl : Int} {L l : List (List Int)} : l ∈ outsR r sl L ↔ l ≠ [] ∧ ∃ c, l = outR r sl L c := by
  unfold outsR outsN
  rw [List.mem_filter, List.mem_map]
  constructor
  · rintro ⟨⟨k, _, rfl⟩, h⟩
    exact ⟨by simpa using h, _, rfl⟩
  · rintro ⟨h, c, rfl⟩
    refine ⟨?_, by simpa using h⟩
    obtain ⟨t, ht⟩ := List.exists_mem_of_ne_nil _ h
    unfold outR at ht
    rw [List.mem_filter, decide_eq_true_eq] at ht
    obtain ⟨ht, h1, h2⟩ := ht
    obtain ⟨_, m2, _⟩ := foldMx (f := fun t => (markR r sl t).hi) (L := L) (b := 0)
    obtain ⟨_, n2, _⟩ := foldMn (f := fun t => (markR r sl t).lo) (L := L) (b := mostR r sl L)
    have m3 : (markR r sl t).hi ≤ mostR r sl L := m2 t ht
    have n3 : leastR r sl L ≤ (markR r sl t).lo := n2 t ht
    exact ⟨(c - leastR r sl L).toNat, by rw [List.mem_range]; omega, by congr 1; omega⟩
theorem tg_markR {r : Rd} {sl : Int} {t u : List Int} (ha : tg t r.a = tg u r.a) (hb : r.kind ≠ 1 → tg t r.b = tg u r.b) : markR r sl t = markR r sl u := by
  unfold markR
  rw [ha]
  split
  · rfl
  · rename_i h; rw [hb h]
/-- How many truths a reading leaves in its worst outcome: by the reference. -/
def rworstL (r : Rd) (sl : Int) (L : List (List Int)) : Int := (outsR r sl L).foldl (fun n l => mx n l.length) 0
theorem foldMxL {α : Type} {f : α → Int} : ∀ {L : List α} {b : Int}, b ≤ L.foldl (fun m t => mx m (f t)) b ∧ (∀ t ∈ L, f t ≤ L.foldl (fun m t => mx m (f t)) b) ∧ (L.foldl (fun m t => mx m (f t)) b = b ∨ ∃ t ∈ L, L.foldl (fun m t => mx m (f t)) b = f t)
  | [], b => ⟨Int.le_refl _, fun t h => absurd h (by simp), .inl rfl⟩
  | a :: L, b => by
    obtain ⟨h1, h2, h3⟩ := foldMxL (f := f) (L := L) (b := mx b (f a))
    have hm : b ≤ mx b (f a) ∧ f a ≤ mx b (f a) ∧ (mx b (f a) = b ∨ mx b (f a) = f a) := by unfold mx; split <;> omega
    simp only [List.foldl_cons]
    refine ⟨by omega, fun t ht => ?_, ?_⟩
    · rcases List.mem_cons.1 ht with rfl | ht
      · omega
      · exact h2 t ht
    · rcases h3 with h3 | ⟨t, ht, h3⟩
      · rcases hm.2.2 with h | h
        · exact .inl (by omega)
        · exact .inr ⟨a, by simp, by omega⟩
      · exact .inr ⟨t, by simp [ht], h3⟩
/-- The outcomes of cut truths are cut outcomes. -/
theorem outR_take {e : Ear} {r : Rd} {sl : Int} (hsl : 0 ≤ sl) (l : List (List Int)) (hi : ∀ t ∈ l, 0 ≤ tg t r.a * r.sec) (ha : 0 ≤ r.a ∧ r.a < e.tones.length) (hb : r.kind ≠ 1 → 0 ≤ r.b ∧ r.b < e.tones.length) (c : Int) :
    outR r sl (l.map (List.take e.tones.length)) c = (outO r sl l c).map (List.take e.tones.length) := by
  unfold outR outO
  rw [List.filter_map]
  congr 1
  apply List.filter_congr
  intro t ht
  simp only [Function.comp]
  have hm : markR r sl (t.take e.tones.length) = markR r sl t := tg_markR (tg_take ha.2 ha.1) fun h => tg_take (hb h).2 (hb h).1
  rw [hm]
  exact decide_eq_decide.2 (mark_shows hsl (hi t ht)).symm
theorem rworst_eq {e : Ear} {r : Rd} {sl : Int} (hsl : 0 ≤ sl) (l : List (List Int)) (hi : ∀ t ∈ l, 0 ≤ tg t r.a * r.sec) (ha : 0 ≤ r.a ∧ r.a < e.tones.length) (hb : r.kind ≠ 1 → 0 ≤ r.b ∧ r.b < e.tones.length) :
    rworstL r sl (l.map (List.take e.tones.length)) = worstL r sl l := by
  obtain ⟨w1, w2⟩ := worst_spec r sl l
  obtain ⟨h1, h2, h3⟩ := foldMxL (f := fun l : List (List Int) => (l.length : Int)) (L := outsR r sl (l.map (List.take e.tones.length))) (b := 0)
  have key : ∀ c, (outR r sl (l.map (List.take e.tones.length)) c).length = (outO r sl l c).length := fun c => by rw [outR_take hsl l hi ha hb, List.length_map]
  apply Int.le_antisymm
  · rcases h3 with h | ⟨u, hu, h⟩
    · unfold rworstL; rw [h]
      have := worst_nonneg r sl l
      exact this
    · unfold rworstL; rw [h]
      obtain ⟨_, c, rfl⟩ := mem_outsR.1 hu
      simp only [key]
      exact w1 c
  · rcases w2 with h | ⟨c, h⟩
    · rw [h]; exact h1
    · rw [← h, ← key]
      by_cases hne : outR r sl (l.map (List.take e.tones.length)) c = []
      · rw [hne]; exact h1
      · exact h2 _ (mem_outsR.2 ⟨hne, c, rfl⟩)
end Go.Proofs
set_option linter.unusedSimpArgs false
set_option linter.unusedVariables false
set_option maxRecDepth 100000
namespace Go.Proofs
open Go Go.Mu

theorem counts_p (sl t s : Int) (hsl : 0 ≤ sl ∧ sl ≤ 3) (ht : 0 ≤ t ∧ t ≤ 1000000) (hs : 0 ≤ s ∧ s ≤ 20) : PureV Try.prog 99 [.int .i64 sl, .int .i64 t, .int .i64 s] (.tup [.int .i64 (cntLo sl (t * s)), .int .i64 (cntHi sl (t * s))]) := by
  refine PureV.of_ev (E := Try.E 46 (fun _ => ([], [])) fs0) (Try.envOK 46 (fun _ => ([], [])) fs0 fs0_ok) (ii_plain) Try.kp99 Try.func99 rfl (by kernel_rfl) (by simp [Try.E]) (Callable.of Try.func99 (by kernel_rfl) (by kernel_rfl)) (by kernel_rfl) ?_
  intro σ
  have hm := mul_le ht hs
  have hwr : IntKind.i64.wrap (t * s) = t * s := wrap64 (by omega) (by omega)
  have hdv : (t * s).tdiv 100 = t * s / 100 := Int.tdiv_eq_ediv_of_nonneg hm.1
  simp -implicitDefEqProofs (maxSteps := 2000000) (disch := omega) only [go_sem, reduceCtorEq, Nat.reduceAdd, Nat.reduceSub, Nat.reduceMul, Nat.reduceLT, Nat.reduceLeDiff, Nat.reduceEqDiff, Nat.reduceBEq, Int.reduceToNat, Int.reduceLT, Int.reduceLE, Int.reduceEq, Int.reduceNeg, Int.reduceAdd, Int.reduceSub, Int.reduceMul, ↓reduceIte, Int.reduceBEq, Int.reduceBNe, hwr, hdv]
  clear hwr hdv ht hs
  generalize t * s = n at hm ⊢
  have hq : 100 * (n / 100) + n % 100 = n ∧ 0 ≤ n % 100 ∧ n % 100 < 100 := by omega
  obtain ⟨ρ, hρ⟩ : ∃ ρ, n % 100 = ρ := ⟨_, rfl⟩
  unfold cntLo cntHi
  rw [hρ] at hq ⊢
  generalize n / 100 = q at hq ⊢
  clear hρ
  refine ARun.once (Try.envOK 46 (fun _ => ([], [])) fs0 fs0_ok) (by kernel_rfl) ?_
  simp -implicitDefEqProofs (maxSteps := 2000000) (disch := omega) only [go_sem, reduceCtorEq, Nat.reduceAdd, Nat.reduceSub, Nat.reduceMul, Nat.reduceLT, Nat.reduceLeDiff, Nat.reduceEqDiff, Nat.reduceBEq, Int.reduceToNat, Int.reduceLT, Int.reduceLE, Int.reduceEq, Int.reduceNeg, Int.reduceAdd, Int.reduceSub, Int.reduceMul, ↓reduceIte, Int.reduceBEq, Int.reduceBNe]
  refine ARun.again (Try.envOK 46 (fun _ => ([], [])) fs0 fs0_ok) (by kernel_rfl) ?_
  simp -implicitDefEqProofs (maxSteps := 2000000) (disch := omega) only [go_sem, reduceCtorEq, Nat.reduceAdd, Nat.reduceSub, Nat.reduceMul, Nat.reduceLT, Nat.reduceLeDiff, Nat.reduceEqDiff, Nat.reduceBEq, Int.reduceToNat, Int.reduceLT, Int.reduceLE, Int.reduceEq, Int.reduceNeg, Int.reduceAdd, Int.reduceSub, Int.reduceMul, ↓reduceIte, Int.reduceBEq, Int.reduceBNe]
  refine ARun.once (Try.envOK 46 (fun _ => ([], [])) fs0 fs0_ok) (by kernel_rfl) ?_
  by_cases h0 : ρ = 0
  · subst h0
    simp -implicitDefEqProofs (maxSteps := 2000000) (disch := omega) only [go_sem, reduceCtorEq, Nat.reduceAdd, Nat.reduceSub, Nat.reduceMul, Nat.reduceLT, Nat.reduceLeDiff, Nat.reduceEqDiff, Nat.reduceBEq, Int.reduceToNat, Int.reduceLT, Int.reduceLE, Int.reduceEq, Int.reduceNeg, Int.reduceAdd, Int.reduceSub, Int.reduceMul, ↓reduceIte, Int.reduceBEq, Int.reduceBNe]
    refine ARun.again (Try.envOK 46 (fun _ => ([], [])) fs0 fs0_ok) (by kernel_rfl) ?_
    simp -implicitDefEqProofs (maxSteps := 2000000) (disch := omega) only [go_sem, reduceCtorEq, Nat.reduceAdd, Nat.reduceSub, Nat.reduceMul, Nat.reduceLT, Nat.reduceLeDiff, Nat.reduceEqDiff, Nat.reduceBEq, Int.reduceToNat, Int.reduceLT, Int.reduceLE, Int.reduceEq, Int.reduceNeg, Int.reduceAdd, Int.reduceSub, Int.reduceMul, ↓reduceIte, Int.reduceBEq, Int.reduceBNe]
  · simp -implicitDefEqProofs (maxSteps := 2000000) (disch := omega) only [go_sem, reduceCtorEq, Nat.reduceAdd, Nat.reduceSub, Nat.reduceMul, Nat.reduceLT, Nat.reduceLeDiff, Nat.reduceEqDiff, Nat.reduceBEq, Int.reduceToNat, Int.reduceLT, Int.reduceLE, Int.reduceEq, Int.reduceNeg, Int.reduceAdd, Int.reduceSub, Int.reduceMul, ↓reduceIte, Int.reduceBEq, Int.reduceBNe]
def counts_s := spec3 tI tI tI fun sl t s => if (0 ≤ sl ∧ sl ≤ 3) ∧ (0 ≤ t ∧ t ≤ 1000000) ∧ (0 ≤ s ∧ s ≤ 20) then some (.tup [.int .i64 (cntLo sl (t * s)), .int .i64 (cntHi sl (t * s))]) else none
theorem counts_ok : ∀ xs v, counts_s xs = some v → PureV Try.prog 99 xs v :=
  spec3_ok fun sl t s v h => by have h := someIf h; rw [← h.2]; exact counts_p sl t s h.1.1 h.1.2.1 h.1.2.2
def fs112 (f : FuncId) (xs : List AV) : Option AV := if f = 99 then counts_s xs else fs111 f xs
theorem fs112_ok : ∀ f xs v, fs112 f xs = some v → PureV Try.prog f xs v := by
  intro f xs v h
  unfold fs112 at h
  split at h
  · rename_i e; subst e; exact counts_ok _ _ h
  exact fs111_ok _ _ _ h
attribute [go_sem] fs112 counts_s
/-- What is needed of truths of which a reading is asked. -/
def okO (r : Rd) (L : List (List Int)) : Prop := okR r ∧ L.length ≤ 100000 ∧ ∀ T ∈ L, small T ∧ okI r T.length
instance (r : Rd) (L : List (List Int)) : Decidable (okO r L) := by unfold okO; infer_instance
theorem markR_bd {r : Rd} {sl : Int} {t : List Int} (hsl : 0 ≤ sl ∧ sl ≤ 3) (hr : okR r) (hs : small t) : 0 ≤ (markR r sl t).lo ∧ (markR r sl t).lo ≤ 1000000 ∧ 0 ≤ (markR r sl t).hi ∧ (markR r sl t).hi ≤ 1000000 := by
  obtain ⟨_, _, _, h4, _⟩ := hr
  have m1 := mul_le (small_tg hs r.a) h4
  have m2 := mul_le (dist_le (small_tg hs r.a) (small_tg hs r.b)) h4
  unfold markR
  generalize tg t r.a * r.sec = n at m1
  generalize dist (tg t r.a) (tg t r.b) * r.sec = d at m2
  split
  · simp only [cntLo, cntHi]
    split <;> split <;> split at * <;> omega
  · split
    · simp only; omega
    · split <;> simp
theorem mostR_bd {r : Rd} {sl : Int} {L : List (List Int)} (hsl : 0 ≤ sl ∧ sl ≤ 3) (h : okO r L) : 0 ≤ mostR r sl L ∧ mostR r sl L ≤ 1000000 := by
  obtain ⟨h1, h2, h3⟩ := foldMxL (f := fun t => (markR r sl t).hi) (L := L) (b := 0)
  refine ⟨h1, ?_⟩
  rcases h3 with h3 | ⟨t, ht, h3⟩
  · unfold mostR; rw [h3]; decide
  · unfold mostR; rw [h3]; exact (markR_bd hsl h.1 (h.2.2 t ht).1).2.2.2
theorem leastR_bd {r : Rd} {sl : Int} {L : List (List Int)} (hsl : 0 ≤ sl ∧ sl ≤ 3) (h : okO r L) : 0 ≤ leastR r sl L ∧ leastR r sl L ≤ 1000000 := by
  obtain ⟨h1, h2, h3⟩ := foldMn (f := fun t => (markR r sl t).lo) (L := L) (b := mostR r sl L)
  have hm := mostR_bd hsl h
  have h1' : leastR r sl L ≤ mostR r sl L := h1
  refine ⟨?_, by omega⟩
  rcases h3 with h3 | ⟨t, ht, h3⟩
  · unfold leastR; rw [h3]; exact hm.1
  · unfold leastR; rw [h3]; exact (markR_bd hsl h.1 (h.2.2 t ht).1).1
theorem okO_take {r : Rd} {L : List (List Int)} (h : okO r L) (n : Nat) : okO r (L.take n) := ⟨h.1, by have := h.2.1; rw [List.length_take]; omega, fun T hT => h.2.2 T (List.mem_of_mem_take hT)⟩
theorem outR_len {r : Rd} {sl c : Int} {L : List (List Int)} : (outR r sl L c).length ≤ L.length := List.length_filter_le _ _
theorem outsN_len {r : Rd} {sl : Int} {L : List (List Int)} {n : Nat} : (outsN r sl L n).length ≤ n := by
  unfold outsN
  refine Nat.le_trans (List.length_filter_le _ _) (by simp)
theorem outsN_succ {r : Rd} {sl : Int} {L : List (List Int)} {n : Nat} : outsN r sl L (n + 1) = outsN r sl L n ++ (if outR r sl L (leastR r sl L + n) = [] then [] else [outR r sl L (leastR r sl L + n)]) := by
  unfold outsN
  rw [List.range_succ, List.map_append, List.filter_append]
  congr 1
  simp only [List.map_cons, List.map_nil, List.filter_cons, List.filter_nil]
  cases outR r sl L (leastR r sl L + n) <;> simp
end Go.Proofs
set_option linter.unusedSimpArgs false
set_option linter.unusedVariables false
set_option maxRecDepth 100000
namespace Go.Proofs
open Go Go.Mu

/-- Lists of lists of numbers. -/
def tsss (l : List (List (List Int))) : AV := .list .no 1 (l.map tss)
theorem tsss_plain (l : List (List (List Int))) : Plain (tsss l) := by
  intro n
  refine .list _ _ _ (fun id e => by cases e) fun i j hi hj => ?_
  simp only [List.getElem_map, tss, AV.cells, List.length_singleton] at hj ⊢
  have : j = 0 := by omega
  subst this
  exact tss_plain _ n
theorem mostR_succ {r : Rd} {sl : Int} {L : List (List Int)} {i : Nat} (h : i < L.length) : mostR r sl (L.take (i + 1)) = mx (mostR r sl (L.take i)) (markR r sl L[i]).hi := by
  unfold mostR; rw [foldl_take _ _ _ _ h]
set_option maxHeartbeats 8000000 in
theorem outs_p (sl : Int) (L : List (List Int)) (r : Rd) (hsl : 0 ≤ sl ∧ sl ≤ 3) (h : okO r L) : PureV Try.prog 34 [.int .i64 sl, tss L, r.av] (tsss (outsR r sl L)) := by
  refine PureV.of_ev (E := Try.E 140 Try.ord34 fs112) (Try.envOK 140 Try.ord34 fs112 fs112_ok) (tsss_plain _) Try.kp34 Try.func34 rfl (by kernel_rfl) (by simp [Try.E]) (Callable.of Try.func34 (by kernel_rfl) (by kernel_rfl)) (by kernel_rfl) ?_
  intro σ
  have hL := h.2.1
  have hmo := mostR_bd hsl h
  have hle := leastR_bd hsl h
  have hmk : ∀ i (hi : i < L.length), 0 ≤ (markR r sl L[i]).lo ∧ (markR r sl L[i]).lo ≤ 1000000 ∧ 0 ≤ (markR r sl L[i]).hi ∧ (markR r sl L[i]).hi ≤ 1000000 := fun i hi => markR_bd hsl h.1 (h.2.2 _ (List.getElem_mem hi)).1
  simp only [tss, Rd.av]
  simp -implicitDefEqProofs (maxSteps := 2000000) (disch := omega) only [go_sem, reduceCtorEq, Nat.reduceAdd, Nat.reduceSub, Nat.reduceMul, Nat.reduceLT, Nat.reduceLeDiff, Nat.reduceEqDiff, Nat.reduceBEq, Int.reduceToNat, Int.reduceLT, Int.reduceLE, Int.reduceEq, Int.reduceNeg, Int.reduceAdd, Int.reduceSub, Int.reduceMul, ↓reduceIte, Int.reduceBEq, Int.reduceBNe]
  refine ARun.ghost 7 2 (sz0 := 0) rfl (by simp [lookA]) ?_
  simp only [ins, ↓reduceIte, List.append_assoc, List.cons_append, List.nil_append, List.length_append, List.length_cons, List.length_nil, Nat.zero_add, Nat.reduceEqDiff, Nat.reduceAdd]
  refine ARun.forS (Try.envOK 140 Try.ord34 fs112 fs112_ok) L.length (fun _ => True) (fun i => [(7, .list (.own (σ.length + 1)) 2 (((L.take i).map fun t => (markR r sl t).av))), (8, .int .i64 (mostR r sl (L.take i))), (9, .int .i64 i)]) (fun i j => σ ++ (.cells [.int .i64 r.kind, .int .i64 r.a, .int .i64 r.b, .int .i64 r.sec, .int .i64 r.shown.lo, .int .i64 r.shown.hi] :: .tail i 2 :: j)) [] (by kernel_rfl) (by simp) (by simp [upd, ins, subF, lookA, mostR]) trivial ?_ ?_
  · intro i j hi _ ih
    have hri : idx (L.map isv) (i : Int) = some (isv L[i]) := idx_iss hi
    obtain ⟨hsm, hia, hib⟩ := h.2.2 _ (List.getElem_mem hi)
    obtain ⟨hk, ha, hb, hs, _⟩ := h.1
    have hTi : L.take (i + 1) = L.take i ++ [L[i]] := List.take_succ_eq_append_getElem hi
    have hml : ((L.take i).map fun t => (markR r sl t).av).length = i := by rw [List.length_map, List.length_take]; omega
    have hb1 := mostR_bd hsl (okO_take h i)
    have hms := mostR_succ (r := r) (sl := sl) hi
    have hmi := hmk i hi
    rw [hms, hTi, List.map_append, List.map_cons, List.map_nil] at ih
    generalize mostR r sl (L.take i) = mo at hb1 ih ⊢
    generalize ((L.take i).map fun t => (markR r sl t).av) = ML at hml ih ⊢
    have hra : idx (L[i].map (AV.int .i64)) r.a = some (.int .i64 (tg L[i] r.a)) := idx_tg ha.1 hia
    have hta := small_tg hsm r.a
    clear hmo hle hmk hms hTi
    by_cases k1 : r.kind = 1
    · have hmr : markR r sl L[i] = ⟨cntLo sl (tg L[i] r.a * r.sec), cntHi sl (tg L[i] r.a * r.sec)⟩ := by unfold markR; rw [if_pos k1]
      rw [hmr] at ih hmi
      simp only [Rng.av] at ih
      generalize L[i] = Ti at hri hra ih hmi hta
      generalize tg Ti r.a = va at hra ih hmi hta
      obtain ⟨rk, ra, rb, rs, rx, ry⟩ := r
      simp only at k1 hra ih hmi hs ha
      subst k1
      clear hsm hia hib h hb hk
      simp -implicitDefEqProofs (maxSteps := 2000000) (disch := omega) only [go_sem, reduceCtorEq, Nat.reduceAdd, Nat.reduceSub, Nat.reduceMul, Nat.reduceLT, Nat.reduceLeDiff, Nat.reduceEqDiff, Nat.reduceBEq, Int.reduceToNat, Int.reduceLT, Int.reduceLE, Int.reduceEq, Int.reduceNeg, Int.reduceAdd, Int.reduceSub, Int.reduceMul, ↓reduceIte, Int.reduceBEq, Int.reduceBNe, hri, isv, hra]
      generalize cntLo sl (va * rs) = c1 at ih hmi ⊢
      generalize cntHi sl (va * rs) = c2 at ih hmi ⊢
      exact (ih trivial (j ++ [_])).castS (by rw [hml]) (by simp [upd, ins, subF, lookA, mx] <;> omega)
    · have hrb : idx (L[i].map (AV.int .i64)) r.b = some (.int .i64 (tg L[i] r.b)) := idx_tg hb.1 (hib k1)
      have htb := small_tg hsm r.b
      by_cases k2 : r.kind = 2
      · have hmr : markR r sl L[i] = ⟨dist (tg L[i] r.a) (tg L[i] r.b) * r.sec / 100, dist (tg L[i] r.a) (tg L[i] r.b) * r.sec / 100⟩ := by unfold markR; rw [if_neg k1, if_pos k2]
        have hm := mul_le (dist_le hta htb) hs
        have hwr : IntKind.i64.wrap (dist (tg L[i] r.a) (tg L[i] r.b) * r.sec) = dist (tg L[i] r.a) (tg L[i] r.b) * r.sec := wrap64 (by omega) (by omega)
        have hdv : (dist (tg L[i] r.a) (tg L[i] r.b) * r.sec).tdiv 100 = dist (tg L[i] r.a) (tg L[i] r.b) * r.sec / 100 := Int.tdiv_eq_ediv_of_nonneg hm.1
        have hw2 : IntKind.i64.wrap (dist (tg L[i] r.a) (tg L[i] r.b) * r.sec / 100) = dist (tg L[i] r.a) (tg L[i] r.b) * r.sec / 100 := wrap64 (by omega) (by omega)
        rw [hmr] at ih hmi
        simp only [Rng.av] at ih
        generalize L[i] = Ti at hri hra hrb ih hmi hta htb hwr hdv hw2
        generalize tg Ti r.a = va at hra ih hmi hta hwr hdv hw2
        generalize tg Ti r.b = vb at hrb ih hmi htb hwr hdv hw2
        obtain ⟨rk, ra, rb, rs, rx, ry⟩ := r
        simp only at k2 hra hrb ih hmi hs ha hb hwr hdv hw2
        subst k2
        clear hsm hia hib h hk hm
        simp -implicitDefEqProofs (maxSteps := 2000000) (disch := omega) only [go_sem, reduceCtorEq, Nat.reduceAdd, Nat.reduceSub, Nat.reduceMul, Nat.reduceLT, Nat.reduceLeDiff, Nat.reduceEqDiff, Nat.reduceBEq, Int.reduceToNat, Int.reduceLT, Int.reduceLE, Int.reduceEq, Int.reduceNeg, Int.reduceAdd, Int.reduceSub, Int.reduceMul, ↓reduceIte, Int.reduceBEq, Int.reduceBNe, hri, isv, hra, hrb, hwr, hdv, hw2]
        exact (ih trivial (j ++ [_])).castS (by rw [hml]) (by simp [upd, ins, subF, lookA, mx] <;> omega)
      · have hk3 : r.kind = 3 := by omega
        rcases (by omega : tg L[i] r.b < tg L[i] r.a ∨ ¬ tg L[i] r.b < tg L[i] r.a) with hlt | hlt
        · have hmr : markR r sl L[i] = ⟨1, 1⟩ := by unfold markR; rw [if_neg k1, if_neg k2, if_pos hlt]
          rw [hmr] at ih
          simp only [Rng.av] at ih
          generalize L[i] = Ti at hri hra hrb ih hta htb hlt
          generalize tg Ti r.a = va at hra hta hlt
          generalize tg Ti r.b = vb at hrb htb hlt
          obtain ⟨rk, ra, rb, rs, rx, ry⟩ := r
          simp only at hk3 hra hrb ih hs ha hb
          subst hk3
          clear hsm hia hib h hk hmi
          simp -implicitDefEqProofs (maxSteps := 2000000) (disch := omega) only [go_sem, reduceCtorEq, Nat.reduceAdd, Nat.reduceSub, Nat.reduceMul, Nat.reduceLT, Nat.reduceLeDiff, Nat.reduceEqDiff, Nat.reduceBEq, Int.reduceToNat, Int.reduceLT, Int.reduceLE, Int.reduceEq, Int.reduceNeg, Int.reduceAdd, Int.reduceSub, Int.reduceMul, ↓reduceIte, Int.reduceBEq, Int.reduceBNe, hri, isv, hra, hrb]
          exact (ih trivial (j ++ [_])).castS (by rw [hml]) (by simp [upd, ins, subF, lookA, mx] <;> omega)
        · have hmr : markR r sl L[i] = ⟨0, 0⟩ := by unfold markR; rw [if_neg k1, if_neg k2, if_neg hlt]
          rw [hmr] at ih
          simp only [Rng.av] at ih
          generalize L[i] = Ti at hri hra hrb ih hta htb hlt
          generalize tg Ti r.a = va at hra hta hlt
          generalize tg Ti r.b = vb at hrb htb hlt
          obtain ⟨rk, ra, rb, rs, rx, ry⟩ := r
          simp only at hk3 hra hrb ih hs ha hb
          subst hk3
          clear hsm hia hib h hk hmi
          simp -implicitDefEqProofs (maxSteps := 2000000) (disch := omega) only [go_sem, reduceCtorEq, Nat.reduceAdd, Nat.reduceSub, Nat.reduceMul, Nat.reduceLT, Nat.reduceLeDiff, Nat.reduceEqDiff, Nat.reduceBEq, Int.reduceToNat, Int.reduceLT, Int.reduceLE, Int.reduceEq, Int.reduceNeg, Int.reduceAdd, Int.reduceSub, Int.reduceMul, ↓reduceIte, Int.reduceBEq, Int.reduceBNe, hri, isv, hra, hrb]
          exact (ih trivial (j ++ [_])).castS (by rw [hml]) (by simp [upd, ins, subF, lookA, mx] <;> omega)
  · intro j _
    rw [List.take_length]
    have hml : (L.map fun t => (markR r sl t).av).length = L.length := List.length_map ..
    have hidx : ∀ i (hi : i < L.length), idx (L.map fun t => (markR r sl t).av) (i : Int) = some (.agg [.int .i64 (markR r sl L[i]).lo, .int .i64 (markR r sl L[i]).hi]) := fun i hi => by rw [idx_nat (f := fun t => (markR r sl t).av) hi]; rfl
    have hlx : leastR r sl L = L.foldl (fun m t => mn m (markR r sl t).lo) (mostR r sl L) := rfl
    have hfa := foldl_all (fun m t => mn m (markR r sl t).lo) (mostR r sl L) L
    have hft := foldl_take (fun m t => mn m (markR r sl t).lo) (mostR r sl L) L
    generalize (L.map fun t => (markR r sl t).av) = ML at hml hidx ⊢
    have hbk := h.1
    clear hbk
    generalize hmo' : mostR r sl L = mo at hmo hlx hfa hft ⊢
    obtain ⟨G, hG⟩ : ∃ G : Nat → Int, G = fun i => (L.take i).foldl (fun m t => mn m (markR r sl t).lo) mo := ⟨_, rfl⟩
    have hG' : ∀ i, (L.take i).foldl (fun m t => mn m (markR r sl t).lo) mo = G i := fun i => by rw [hG]
    have hG0 : G 0 = mo := by rw [hG]; rfl
    simp only [hG'] at hfa hft
    rw [← hfa] at hlx
    clear hG hG' hfa
    simp -implicitDefEqProofs (maxSteps := 2000000) (disch := omega) only [go_sem, reduceCtorEq, Nat.reduceAdd, Nat.reduceSub, Nat.reduceMul, Nat.reduceLT, Nat.reduceLeDiff, Nat.reduceEqDiff, Nat.reduceBEq, Int.reduceToNat, Int.reduceLT, Int.reduceLE, Int.reduceEq, Int.reduceNeg, Int.reduceAdd, Int.reduceSub, Int.reduceMul, ↓reduceIte, Int.reduceBEq, Int.reduceBNe]
    have hJ : ∃ J, σ ++ (.cells [.int .i64 r.kind, .int .i64 r.a, .int .i64 r.b, .int .i64 r.sec, .int .i64 r.shown.lo, .int .i64 r.shown.hi] :: .tail L.length 2 :: j) = σ ++ J := ⟨_, rfl⟩
    generalize σ ++ (.cells [.int .i64 r.kind, .int .i64 r.a, .int .i64 r.b, .int .i64 r.sec, .int .i64 r.shown.lo, .int .i64 r.shown.hi] :: .tail L.length 2 :: j) = τ at hJ
    refine ARun.forS (Try.envOK 140 Try.ord34 fs112 fs112_ok) L.length (fun _ => True) (fun i => [(14, .int .i64 (G i)), (15, .int .i64 i)]) (fun i j => τ ++ j) [] (by kernel_rfl) (by simp) (by simp [upd, ins, subF, lookA, hG0]) trivial ?_ ?_
    · intro i j hi _ ih
      have hri := hidx i hi
      rw [hft i hi] at ih
      simp only [mn] at ih
      generalize (markR r sl L[i]).lo = c1 at hri ih
      generalize (markR r sl L[i]).hi = c2 at hri
      clear hidx hmk hft
      generalize G i = g at ih ⊢
      simp -implicitDefEqProofs (maxSteps := 2000000) (disch := omega) only [go_sem, reduceCtorEq, Nat.reduceAdd, Nat.reduceSub, Nat.reduceMul, Nat.reduceLT, Nat.reduceLeDiff, Nat.reduceEqDiff, Nat.reduceBEq, Int.reduceToNat, Int.reduceLT, Int.reduceLE, Int.reduceEq, Int.reduceNeg, Int.reduceAdd, Int.reduceSub, Int.reduceMul, ↓reduceIte, Int.reduceBEq, Int.reduceBNe, hri]
      exact (ih trivial j).castS rfl (by simp [upd, ins, subF, lookA])
    · intro j _
      rw [← hlx]
      have hou : outsR r sl L = outsN r sl L (mo - leastR r sl L + 1).toNat := by unfold outsR; rw [hmo']
      have hos : ∀ n, outsN r sl L (n + 1) = outsN r sl L n ++ (if outR r sl L (leastR r sl L + n) = [] then [] else [outR r sl L (leastR r sl L + n)]) := fun n => outsN_succ
      rw [hou]
      clear hou hlx hft hmk hmo'
      generalize leastR r sl L = le at hle hos ⊢
      simp -implicitDefEqProofs (maxSteps := 2000000) (disch := omega) only [go_sem, reduceCtorEq, Nat.reduceAdd, Nat.reduceSub, Nat.reduceMul, Nat.reduceLT, Nat.reduceLeDiff, Nat.reduceEqDiff, Nat.reduceBEq, Int.reduceToNat, Int.reduceLT, Int.reduceLE, Int.reduceEq, Int.reduceNeg, Int.reduceAdd, Int.reduceSub, Int.reduceMul, ↓reduceIte, Int.reduceBEq, Int.reduceBNe]
      replace hJ : ∃ J, τ ++ j = σ ++ J := by obtain ⟨J, e⟩ := hJ; exact ⟨J ++ j, by rw [e, List.append_assoc]⟩
      generalize τ ++ j = τ at hJ ⊢
      refine ARun.ghost 13 1 (sz0 := 0) rfl (by simp [lookA]) ?_
      simp only [ins, ↓reduceIte, List.append_assoc, List.cons_append, List.nil_append, List.length_append, List.length_cons, List.length_nil, Nat.zero_add, Nat.reduceEqDiff, Nat.reduceAdd]
      refine ARun.forS (Try.envOK 140 Try.ord34 fs112 fs112_ok) (mo - le + 1).toNat (fun _ => True) (fun i => [(13, .list (.own τ.length) 1 ((outsN r sl L i).map tss)), (16, .int .i64 (le + i))]) (fun i j => τ ++ (.tail (outsN r sl L i).length 1 :: j)) [] (by kernel_rfl) (by simp [outsN]) (by simp [upd, ins, subF, lookA, outsN]) trivial ?_ ?_
      · intro i j hi _ ih
        have hol : (outsN r sl L i).length ≤ i := outsN_len
        rw [hos] at ih
        clear hos
        generalize outsN r sl L i = O at hol ih ⊢
        obtain ⟨c, hc⟩ : ∃ c, le + (i : Int) = c := ⟨_, rfl⟩
        rw [hc] at ih ⊢
        have hcb : 0 ≤ c ∧ c ≤ mo ∧ c ≤ 1000000 := by omega
        have hc1 : le + ((i + 1 : Nat) : Int) = c + 1 := by omega
        rw [hc1] at ih
        clear hc hc1
        simp -implicitDefEqProofs (maxSteps := 2000000) (disch := omega) only [go_sem, reduceCtorEq, Nat.reduceAdd, Nat.reduceSub, Nat.reduceMul, Nat.reduceLT, Nat.reduceLeDiff, Nat.reduceEqDiff, Nat.reduceBEq, Int.reduceToNat, Int.reduceLT, Int.reduceLE, Int.reduceEq, Int.reduceNeg, Int.reduceAdd, Int.reduceSub, Int.reduceMul, ↓reduceIte, Int.reduceBEq, Int.reduceBNe]
        refine ARun.ghost 17 1 (sz0 := 0) rfl (by simp [lookA]) ?_
        simp only [ins, ↓reduceIte, List.append_assoc, List.cons_append, List.nil_append, List.length_append, List.length_cons, List.length_nil, Nat.zero_add, Nat.reduceEqDiff, Nat.reduceAdd]
        refine ARun.forS (Try.envOK 140 Try.ord34 fs112 fs112_ok) L.length (fun _ => True) (fun k => [(17, .list (.own (τ.length + (j.length + 1))) 1 ((outR r sl (L.take k) c).map isv)), (18, .int .i64 k)]) (fun k j2 => τ ++ (.tail O.length 1 :: (j ++ .tail (outR r sl (L.take k) c).length 1 :: j2))) [] (by kernel_rfl) (by simp [outR]) (by simp [upd, ins, subF, lookA, outR]) trivial ?_ ?_
        · intro k j2 hk _ ih2
          have hmk := hidx k hk
          have hri : idx (L.map isv) (k : Int) = some (isv L[k]) := idx_iss hk
          have hlt : (outR r sl (L.take k) c).length ≤ k := Nat.le_trans outR_len (List.length_take_le _ _)
          have hst : outR r sl (L.take (k + 1)) c = outR r sl (L.take k) c ++ (if (markR r sl L[k]).lo ≤ c ∧ c ≤ (markR r sl L[k]).hi then [L[k]] else []) := by
            unfold outR
            rw [List.take_succ_eq_append_getElem hk, List.filter_append]
            congr 1
            simp only [List.filter_cons, List.filter_nil, decide_eq_true_eq]
          rw [hst] at ih2
          clear hst hidx
          generalize (markR r sl L[k]).lo = c1 at hmk ih2
          generalize (markR r sl L[k]).hi = c2 at hmk ih2
          generalize L[k] = Tk at hri ih2
          generalize outR r sl (L.take k) c = B at hlt ih2 ⊢
          by_cases hcc : c1 ≤ c ∧ c ≤ c2
          · rw [if_pos hcc] at ih2
            have hd : decide (c1 ≤ c ∧ c ≤ c2) = true := decide_eq_true hcc
            clear hcc
            simp -implicitDefEqProofs (maxSteps := 2000000) (disch := omega) only [go_sem, reduceCtorEq, Nat.reduceAdd, Nat.reduceSub, Nat.reduceMul, Nat.reduceLT, Nat.reduceLeDiff, Nat.reduceEqDiff, Nat.reduceBEq, Int.reduceToNat, Int.reduceLT, Int.reduceLE, Int.reduceEq, Int.reduceNeg, Int.reduceAdd, Int.reduceSub, Int.reduceMul, ↓reduceIte, Int.reduceBEq, Int.reduceBNe, hmk, hri, hd, isv]
            exact (ih2 trivial j2).castS (by simp) (by simp [upd, ins, subF, lookA, isv])
          · rw [if_neg hcc] at ih2
            have hd : decide (c1 ≤ c ∧ c ≤ c2) = false := decide_eq_false hcc
            clear hcc
            simp -implicitDefEqProofs (maxSteps := 2000000) (disch := omega) only [go_sem, reduceCtorEq, Nat.reduceAdd, Nat.reduceSub, Nat.reduceMul, Nat.reduceLT, Nat.reduceLeDiff, Nat.reduceEqDiff, Nat.reduceBEq, Int.reduceToNat, Int.reduceLT, Int.reduceLE, Int.reduceEq, Int.reduceNeg, Int.reduceAdd, Int.reduceSub, Int.reduceMul, ↓reduceIte, Int.reduceBEq, Int.reduceBNe, hmk, hri, hd]
            exact (ih2 trivial j2).castS (by simp) (by simp [upd, ins, subF, lookA])
        · intro j2 _
          rw [List.take_length]
          have hbl : (outR r sl L c).length ≤ L.length := outR_len
          clear hidx
          generalize outR r sl L c = B at hbl ih ⊢
          by_cases hB : B = []
          · subst hB
            rw [if_pos rfl] at ih
            simp -implicitDefEqProofs (maxSteps := 2000000) (disch := omega) only [go_sem, reduceCtorEq, Nat.reduceAdd, Nat.reduceSub, Nat.reduceMul, Nat.reduceLT, Nat.reduceLeDiff, Nat.reduceEqDiff, Nat.reduceBEq, Int.reduceToNat, Int.reduceLT, Int.reduceLE, Int.reduceEq, Int.reduceNeg, Int.reduceAdd, Int.reduceSub, Int.reduceMul, ↓reduceIte, Int.reduceBEq, Int.reduceBNe]
            exact (ih trivial (j ++ .tail 0 1 :: j2)).castS (by simp) (by simp [upd, ins, subF, lookA])
          · rw [if_neg hB] at ih
            have hB0 : 0 < B.length := List.length_pos_iff.2 hB
            simp -implicitDefEqProofs (maxSteps := 2000000) (disch := omega) only [go_sem, reduceCtorEq, Nat.reduceAdd, Nat.reduceSub, Nat.reduceMul, Nat.reduceLT, Nat.reduceLeDiff, Nat.reduceEqDiff, Nat.reduceBEq, Int.reduceToNat, Int.reduceLT, Int.reduceLE, Int.reduceEq, Int.reduceNeg, Int.reduceAdd, Int.reduceSub, Int.reduceMul, ↓reduceIte, Int.reduceBEq, Int.reduceBNe]
            exact (ih trivial (j ++ .tail B.length 1 :: j2)).castS (by simp) (by simp [upd, ins, subF, lookA, tss])
      · intro j _
        have hol : (outsN r sl L (mo - le + 1).toNat).length ≤ (mo - le + 1).toNat := outsN_len
        clear hos hidx
        obtain ⟨J, rfl⟩ := hJ
        by_cases hml2 : le ≤ mo
        · have e : le + ((mo - le + 1).toNat : Int) = mo + 1 := by omega
          rw [e]
          simp -implicitDefEqProofs (maxSteps := 2000000) (disch := omega) only [go_sem, reduceCtorEq, Nat.reduceAdd, Nat.reduceSub, Nat.reduceMul, Nat.reduceLT, Nat.reduceLeDiff, Nat.reduceEqDiff, Nat.reduceBEq, Int.reduceToNat, Int.reduceLT, Int.reduceLE, Int.reduceEq, Int.reduceNeg, Int.reduceAdd, Int.reduceSub, Int.reduceMul, ↓reduceIte, Int.reduceBEq, Int.reduceBNe, tsss]
        · have e : (mo - le + 1).toNat = 0 := by omega
          rw [e]
          simp -implicitDefEqProofs (maxSteps := 2000000) (disch := omega) only [go_sem, reduceCtorEq, Nat.reduceAdd, Nat.reduceSub, Nat.reduceMul, Nat.reduceLT, Nat.reduceLeDiff, Nat.reduceEqDiff, Nat.reduceBEq, Int.reduceToNat, Int.reduceLT, Int.reduceLE, Int.reduceEq, Int.reduceNeg, Int.reduceAdd, Int.reduceSub, Int.reduceMul, ↓reduceIte, Int.reduceBEq, Int.reduceBNe, tsss]
def outs_s := spec3 tI tIss tRd fun sl L r => if (0 ≤ sl ∧ sl ≤ 3) ∧ okO r L then some (tsss (outsR r sl L)) else none
theorem outs_ok : ∀ xs v, outs_s xs = some v → PureV Try.prog 34 xs v :=
  spec3_ok fun sl L r v h => by have h := someIf h; rw [← h.2]; exact outs_p sl L r h.1.1 h.1.2
def fs113 (f : FuncId) (xs : List AV) : Option AV := if f = 34 then outs_s xs else fs112 f xs
theorem fs113_ok : ∀ f xs v, fs113 f xs = some v → PureV Try.prog f xs v := by
  intro f xs v h
  unfold fs113 at h
  split at h
  · rename_i e; subst e; exact outs_ok _ _ h
  exact fs112_ok _ _ _ h
attribute [go_sem] fs113 outs_s
end Go.Proofs
set_option linter.unusedSimpArgs false
set_option linter.unusedVariables false
set_option maxRecDepth 100000
namespace Go.Proofs
open Go Go.Mu

theorem idx_tsss {l : List (List (List Int))} {i : Nat} (h : i < l.length) : idx (l.map tss) (i : Int) = some (tss l[i]) := idx_map h
theorem outsR_len {sl : Int} {L : List (List Int)} {r : Rd} (hsl : 0 ≤ sl ∧ sl ≤ 3) (h : okO r L) : (outsR r sl L).length ≤ 1000001 := by
  have h1 := mostR_bd hsl h
  have h2 := leastR_bd hsl h
  unfold outsR
  have := outsN_len (r := r) (sl := sl) (L := L) (n := (mostR r sl L - leastR r sl L + 1).toNat)
  omega
theorem outs_elem {sl : Int} {L l : List (List Int)} {r : Rd} (h : l ∈ outsR r sl L) : l ≠ [] ∧ l.length ≤ L.length ∧ ∀ t ∈ l, t ∈ L := by
  obtain ⟨h1, c, rfl⟩ := mem_outsR.1 h
  exact ⟨h1, outR_len, fun t ht => (List.mem_filter.1 ht).1⟩
set_option maxHeartbeats 2000000 in
theorem rworst_p (sl : Int) (L : List (List Int)) (r : Rd) (hsl : 0 ≤ sl ∧ sl ≤ 3) (h : okO r L) : PureV Try.prog 119 [.int .i64 sl, tss L, r.av] (.int .i64 (rworstL r sl L)) := by
  refine PureV.of_ev (E := Try.E 28 (fun _ => ([], [])) fs113) (Try.envOK 28 (fun _ => ([], [])) fs113 fs113_ok) (.int) Try.kp119 Try.func119 rfl (by kernel_rfl) (by simp [Try.E]) (Callable.of Try.func119 (by kernel_rfl) (by kernel_rfl)) (by kernel_rfl) ?_
  intro σ
  have hol := outsR_len hsl h
  have hoe : ∀ i (hi : i < (outsR r sl L).length), (outsR r sl L)[i].length ≤ 100000 := fun i hi => by have := (outs_elem (List.getElem_mem hi)).2.1; have := h.2.1; omega
  unfold rworstL
  obtain ⟨k, a, b, s, ⟨x, y⟩⟩ := r
  simp only [tss, Rd.av]
  simp -implicitDefEqProofs (maxSteps := 2000000) (disch := omega) only [go_sem, reduceCtorEq, Nat.reduceAdd, Nat.reduceSub, Nat.reduceMul, Nat.reduceLT, Nat.reduceLeDiff, Nat.reduceEqDiff, Nat.reduceBEq, Int.reduceToNat, Int.reduceLT, Int.reduceLE, Int.reduceEq, Int.reduceNeg, Int.reduceAdd, Int.reduceSub, Int.reduceMul, ↓reduceIte, Int.reduceBEq, Int.reduceBNe, hsl, h, tsss]
  clear h
  generalize outsR ⟨k, a, b, s, ⟨x, y⟩⟩ sl L = O at hol hoe ⊢
  have hft := foldl_take (fun (n : Int) (l : List (List Int)) => mx n l.length) 0 O
  have hfa := foldl_all (fun (n : Int) (l : List (List Int)) => mx n l.length) 0 O
  obtain ⟨G, hG⟩ : ∃ G : Nat → Int, G = fun i => (O.take i).foldl (fun (n : Int) (l : List (List Int)) => mx n l.length) 0 := ⟨_, rfl⟩
  have hG' : ∀ i, (O.take i).foldl (fun (n : Int) (l : List (List Int)) => mx n l.length) 0 = G i := fun i => by rw [hG]
  have hG0 : G 0 = 0 := by rw [hG]; rfl
  simp only [hG'] at hft hfa
  clear hG hG'
  rw [← hfa]

  refine ARun.forS (Try.envOK 28 (fun _ => ([], [])) fs113 fs113_ok) O.length (fun _ => True) (fun i => [(8, .int .i64 (G i)), (9, .int .i64 i)]) (fun i j => σ ++ (.cells [.int .i64 k, .int .i64 a, .int .i64 b, .int .i64 s, .int .i64 x, .int .i64 y] :: j)) [] (by kernel_rfl) rfl (by simp [upd, ins, subF, lookA, hG0]) trivial ?_ ?_
  · intro i j hi _ ih
    have hri := idx_tsss hi
    have hli := hoe i hi
    rw [hft i hi] at ih
    simp only [mx] at ih
    clear hoe hft
    generalize G i = g at ih ⊢
    generalize O[i] = Oi at hri hli ih
    simp only [tss] at hri
    simp -implicitDefEqProofs (maxSteps := 2000000) (disch := omega) only [go_sem, reduceCtorEq, Nat.reduceAdd, Nat.reduceSub, Nat.reduceMul, Nat.reduceLT, Nat.reduceLeDiff, Nat.reduceEqDiff, Nat.reduceBEq, Int.reduceToNat, Int.reduceLT, Int.reduceLE, Int.reduceEq, Int.reduceNeg, Int.reduceAdd, Int.reduceSub, Int.reduceMul, ↓reduceIte, Int.reduceBEq, Int.reduceBNe, hri]
    exact (ih trivial j).castS rfl (by simp [upd, ins, subF, lookA])
  · intro j _
    simp -implicitDefEqProofs (maxSteps := 2000000) (disch := omega) only [go_sem, reduceCtorEq, Nat.reduceAdd, Nat.reduceSub, Nat.reduceMul, Nat.reduceLT, Nat.reduceLeDiff, Nat.reduceEqDiff, Nat.reduceBEq, Int.reduceToNat, Int.reduceLT, Int.reduceLE, Int.reduceEq, Int.reduceNeg, Int.reduceAdd, Int.reduceSub, Int.reduceMul, ↓reduceIte, Int.reduceBEq, Int.reduceBNe]
def rworst_s := spec3 tI tIss tRd fun sl L r => if (0 ≤ sl ∧ sl ≤ 3) ∧ okO r L then some (.int .i64 (rworstL r sl L)) else none
theorem rworst_ok : ∀ xs v, rworst_s xs = some v → PureV Try.prog 119 xs v :=
  spec3_ok fun sl L r v h => by have h := someIf h; rw [← h.2]; exact rworst_p sl L r h.1.1 h.1.2
def fs114 (f : FuncId) (xs : List AV) : Option AV := if f = 119 then rworst_s xs else fs113 f xs
theorem fs114_ok : ∀ f xs v, fs114 f xs = some v → PureV Try.prog f xs v := by
  intro f xs v h
  unfold fs114 at h
  split at h
  · rename_i e; subst e; exact rworst_ok _ _ h
  exact fs113_ok _ _ _ h
attribute [go_sem] fs114 rworst_s
set_option maxHeartbeats 2000000 in
theorem rgates_p (g : List Int) (h1 : g.length ≤ 4294967296) : PureV Try.prog 91 [tIs.av g] (.int .i64 (ckGates g)) := by
  refine PureV.of_ev (E := Try.E 36 Try.ord91 fs114) (Try.envOK 36 Try.ord91 fs114 fs114_ok) (.int) Try.kp91 Try.func91 rfl (by kernel_rfl) (by simp [Try.E]) (Callable.of Try.func91 (by kernel_rfl) (by kernel_rfl)) (by kernel_rfl) ?_
  intro σ
  simp only [tIs]
  simp -implicitDefEqProofs (maxSteps := 2000000) (disch := omega) only [go_sem, reduceCtorEq, Nat.reduceAdd, Nat.reduceSub, Nat.reduceMul, Nat.reduceLT, Nat.reduceLeDiff, Nat.reduceEqDiff, Nat.reduceBEq, Int.reduceToNat, Int.reduceLT, Int.reduceLE, Int.reduceEq, Int.reduceNeg, Int.reduceAdd, Int.reduceSub, Int.reduceMul, ↓reduceIte, Int.reduceBEq, Int.reduceBNe]
  refine ⟨fun q1 => ?_, fun q1 => ⟨fun q2 => ?_, fun q2 => ?_⟩⟩
  · simp only [ckGates]; grind
  · simp only [ckGates]; grind
  refine ARun.forS (Try.envOK 36 Try.ord91 fs114 fs114_ok) g.length (fun i => firstE (ckG g) ((List.range g.length).drop i) = firstE (ckG g) (List.range g.length)) (fun i => [(3, .int .i64 i)]) (fun _ j => σ) [] (by kernel_rfl) rfl (by simp [upd, ins, subF, lookA]) (by simp) ?_ ?_
  · intro i j hi hp ih
    rw [firstE_drop (by simpa using hi), List.getElem_range] at hp
    have ht := tgE hi
    have hgi : idx (g.map (AV.int .i64)) (i : Int) = some (.int .i64 (tg g i)) := by rw [idx_tg (by omega) (by omega)]
    by_cases hin : 1 ≤ tg g i ∧ tg g i ≤ 20
    · have hd : decide (1 ≤ tg g i ∧ tg g i ≤ 20) = true := decide_eq_true hin
      rcases Nat.eq_zero_or_pos i with h0 | h0
      · have hz : ((0 : Int) < (i : Int)) = False := eq_false (by omega)
        have hg0 : ckG g i = 0 := by simp only [ckG]; grind
        rw [if_pos hg0] at hp
        clear ht hg0
        generalize tg g i = gi at hgi hd hin
        simp -implicitDefEqProofs (maxSteps := 2000000) (disch := omega) only [go_sem, reduceCtorEq, Nat.reduceAdd, Nat.reduceSub, Nat.reduceMul, Nat.reduceLT, Nat.reduceLeDiff, Nat.reduceEqDiff, Nat.reduceBEq, Int.reduceToNat, Int.reduceLT, Int.reduceLE, Int.reduceEq, Int.reduceNeg, Int.reduceAdd, Int.reduceSub, Int.reduceMul, ↓reduceIte, Int.reduceBEq, Int.reduceBNe, hgi, hd, hz]
        exact (ih hp []).castS rfl (by simp [upd, ins, subF, lookA])
      · have hgp : idx (g.map (AV.int .i64)) ((i : Int) - 1) = some (.int .i64 (tg g ((i : Int) - 1))) := by rw [idx_tg (by omega) (by omega)]
        by_cases hlt : tg g i ≤ tg g ((i : Int) - 1)
        · have hg0 : ckG g i = 5 := by simp only [ckG]; grind
          rw [hg0, if_neg (by decide)] at hp
          have hck : ckGates g = 5 := by simp only [ckGates]; grind
          rw [hck]
          clear ht hg0 hp hck ih
          generalize tg g i = gi at hgi hd hin hlt
          generalize tg g ((i : Int) - 1) = gp at hgp hlt
          simp -implicitDefEqProofs (maxSteps := 2000000) (disch := omega) only [go_sem, reduceCtorEq, Nat.reduceAdd, Nat.reduceSub, Nat.reduceMul, Nat.reduceLT, Nat.reduceLeDiff, Nat.reduceEqDiff, Nat.reduceBEq, Int.reduceToNat, Int.reduceLT, Int.reduceLE, Int.reduceEq, Int.reduceNeg, Int.reduceAdd, Int.reduceSub, Int.reduceMul, ↓reduceIte, Int.reduceBEq, Int.reduceBNe, hgi, hgp, hd]
        · have hg0 : ckG g i = 0 := by simp only [ckG]; grind
          rw [if_pos hg0] at hp
          clear ht hg0
          generalize tg g i = gi at hgi hd hin hlt
          generalize tg g ((i : Int) - 1) = gp at hgp hlt
          simp -implicitDefEqProofs (maxSteps := 2000000) (disch := omega) only [go_sem, reduceCtorEq, Nat.reduceAdd, Nat.reduceSub, Nat.reduceMul, Nat.reduceLT, Nat.reduceLeDiff, Nat.reduceEqDiff, Nat.reduceBEq, Int.reduceToNat, Int.reduceLT, Int.reduceLE, Int.reduceEq, Int.reduceNeg, Int.reduceAdd, Int.reduceSub, Int.reduceMul, ↓reduceIte, Int.reduceBEq, Int.reduceBNe, hgi, hgp, hd]
          exact (ih hp []).castS rfl (by simp [upd, ins, subF, lookA])
    · have hd : decide (1 ≤ tg g i ∧ tg g i ≤ 20) = false := decide_eq_false hin
      have hg0 : ckG g i = 1 := by simp only [ckG]; grind
      rw [hg0, if_neg (by decide)] at hp
      have hck : ckGates g = 1 := by simp only [ckGates]; grind
      rw [hck]
      clear ht hg0 hp hck ih
      generalize tg g i = gi at hgi hd hin
      simp -implicitDefEqProofs (maxSteps := 2000000) (disch := omega) only [go_sem, reduceCtorEq, Nat.reduceAdd, Nat.reduceSub, Nat.reduceMul, Nat.reduceLT, Nat.reduceLeDiff, Nat.reduceEqDiff, Nat.reduceBEq, Int.reduceToNat, Int.reduceLT, Int.reduceLE, Int.reduceEq, Int.reduceNeg, Int.reduceAdd, Int.reduceSub, Int.reduceMul, ↓reduceIte, Int.reduceBEq, Int.reduceBNe, hgi, hd]
  · intro j hp
    have := firstE_end (f := ckG g) (l := List.range g.length)
    simp only [List.length_range] at this
    rw [this] at hp
    simp -implicitDefEqProofs (maxSteps := 2000000) (disch := omega) only [go_sem, reduceCtorEq, Nat.reduceAdd, Nat.reduceSub, Nat.reduceMul, Nat.reduceLT, Nat.reduceLeDiff, Nat.reduceEqDiff, Nat.reduceBEq, Int.reduceToNat, Int.reduceLT, Int.reduceLE, Int.reduceEq, Int.reduceNeg, Int.reduceAdd, Int.reduceSub, Int.reduceMul, ↓reduceIte, Int.reduceBEq, Int.reduceBNe]
    simp only [ckGates]; grind
def rgates_s := spec1 tIs fun g => if g.length ≤ 4294967296 then some (.int .i64 (ckGates g)) else none
theorem rgates_ok : ∀ xs v, rgates_s xs = some v → PureV Try.prog 91 xs v :=
  spec1_ok fun e v h => by have h := someIf h; rw [← h.2]; exact rgates_p e h.1
/-- Truths of a valid ear, asked of a valid reading. -/
theorem okO_truths {e : Ear} {r : Rd} (hc : ck e = 0) (hr : ckR r e.tones.length = 0) : okO r (truthsR e) := by
  have he := okE_of_ck hc
  have hlen := he.len
  have := truthsR_len he
  refine ⟨okR_of_ck hlen hr, by omega, fun T hT => ?_⟩
  obtain ⟨h1, h2⟩ := truthsR_ok he T hT
  obtain ⟨x1, x2⟩ := ckR_idx hr
  exact ⟨h2, by rw [h1]; exact x1, fun h => by rw [h1]; exact x2 h⟩
theorem rworst_truths {e : Ear} {r : Rd} (hc : ck e = 0) (hr : ckR r e.tones.length = 0) : rworstL r e.slack (truthsR e) = worstL r e.slack (truthsL e) := by
  have he := okE_of_ck hc
  have hok := okR_of_ck he.len hr
  obtain ⟨x1, x2⟩ := ckR_idx hr
  exact rworst_eq he.sl.1 (truthsL e) (fun t ht => (mul_le (small_tg (truthsL_ok he t ht).2 r.a) hok.2.2.2.1).1) ⟨hok.2.1.1, x1⟩ fun h => ⟨hok.2.2.1.1, x2 h⟩
set_option maxHeartbeats 2000000 in
theorem rWorst_p (e : Ear) (r : Rd) (h1 : e.tones.length ≤ 4294967296) (h2 : e.rds.length ≤ 4294967296) : PureV Try.prog 51 [e.av, r.av] (.tup [.int .i64 (worstOf e r).1, .int .i64 (worstOf e r).2]) := by
  refine PureV.of_ev (E := Try.E 32 (fun _ => ([], [])) fs114) (Try.envOK 32 (fun _ => ([], [])) fs114 fs114_ok) (ii_plain) Try.kp51 Try.func51 rfl (by kernel_rfl) (by simp [Try.E]) (Callable.of Try.func51 (by kernel_rfl) (by kernel_rfl)) (by kernel_rfl) ?_
  intro σ
  by_cases hk : (askL e (ckR r e.tones.length)).2 = 0
  · obtain ⟨hc, hw, hn, hke⟩ := askL_ok hk
    have he := okE_of_ck hc
    have hR : rallL e [] = truthsR e := rfl
    have hR0 : truthsR e ≠ [] := fun h => hn (truthsR_nil.1 h)
    have ho := okO_truths hc hw
    have hsl := he.sl
    have hd : worstOf e r = (rworstL r e.slack (truthsR e), 0) := by
      unfold worstOf
      rw [if_pos hk, rworst_truths hc hw]
    rw [hd]
    obtain ⟨s, ts, rs⟩ := e
    obtain ⟨k, a, b, se, ⟨x, y⟩⟩ := r
    simp only [Ear.av, Rd.av]
    simp only at h1 h2 hw hc hsl
    have hbt : (truthsR ⟨s, ts, rs⟩).length ≤ 100000 := ho.2.1
    generalize truthsR ⟨s, ts, rs⟩ = L at hR hR0 ho hbt ⊢
    have hL0 : ¬ L.length = 0 := fun h => hR0 (List.length_eq_zero_iff.1 h)
    simp -implicitDefEqProofs (maxSteps := 2000000) (disch := omega) only [go_sem, reduceCtorEq, Nat.reduceAdd, Nat.reduceSub, Nat.reduceMul, Nat.reduceLT, Nat.reduceLeDiff, Nat.reduceEqDiff, Nat.reduceBEq, Int.reduceToNat, Int.reduceLT, Int.reduceLE, Int.reduceEq, Int.reduceNeg, Int.reduceAdd, Int.reduceSub, Int.reduceMul, ↓reduceIte, Int.reduceBEq, Int.reduceBNe, hc, hw, small0, hR, tss, ho, hsl]
  · have hd : worstOf e r = (0, (askL e (ckR r e.tones.length)).2) := by unfold worstOf; rw [if_neg hk]
    rw [hd]
    rw [askE] at hk ⊢
    obtain ⟨s, ts, rs⟩ := e
    obtain ⟨k, a, b, se, ⟨x, y⟩⟩ := r
    simp only [Ear.av, Rd.av]
    simp only at h1 h2
    by_cases hc : ck ⟨s, ts, rs⟩ = 0
    · rw [if_neg (by simp [hc])] at hk ⊢
      by_cases hw : ckR ⟨k, a, b, se, ⟨x, y⟩⟩ ts.length = 0
      · rw [if_neg (by simp [hw])] at hk ⊢
        have hn : truthsL ⟨s, ts, rs⟩ = [] := by
          apply Classical.byContradiction
          intro h; rw [if_neg h] at hk; exact hk rfl
        have hR2 : rallL ⟨s, ts, rs⟩ [] = [] := truthsR_nil.2 hn
        rw [if_pos hn]
        simp -implicitDefEqProofs (maxSteps := 2000000) (disch := omega) only [go_sem, reduceCtorEq, Nat.reduceAdd, Nat.reduceSub, Nat.reduceMul, Nat.reduceLT, Nat.reduceLeDiff, Nat.reduceEqDiff, Nat.reduceBEq, Int.reduceToNat, Int.reduceLT, Int.reduceLE, Int.reduceEq, Int.reduceNeg, Int.reduceAdd, Int.reduceSub, Int.reduceMul, ↓reduceIte, Int.reduceBEq, Int.reduceBNe, hc, hw, small0, hR2, tss, List.map_nil]
      · rw [if_pos hw]
        generalize hq : ckR ⟨k, a, b, se, ⟨x, y⟩⟩ ts.length = q at hw ⊢
        simp -implicitDefEqProofs (maxSteps := 2000000) (disch := omega) only [go_sem, reduceCtorEq, Nat.reduceAdd, Nat.reduceSub, Nat.reduceMul, Nat.reduceLT, Nat.reduceLeDiff, Nat.reduceEqDiff, Nat.reduceBEq, Int.reduceToNat, Int.reduceLT, Int.reduceLE, Int.reduceEq, Int.reduceNeg, Int.reduceAdd, Int.reduceSub, Int.reduceMul, ↓reduceIte, Int.reduceBEq, Int.reduceBNe, hc, hq, hw]
    · rw [if_pos hc]
      simp -implicitDefEqProofs (maxSteps := 2000000) (disch := omega) only [go_sem, reduceCtorEq, Nat.reduceAdd, Nat.reduceSub, Nat.reduceMul, Nat.reduceLT, Nat.reduceLeDiff, Nat.reduceEqDiff, Nat.reduceBEq, Int.reduceToNat, Int.reduceLT, Int.reduceLE, Int.reduceEq, Int.reduceNeg, Int.reduceAdd, Int.reduceSub, Int.reduceMul, ↓reduceIte, Int.reduceBEq, Int.reduceBNe, hc]
def rWorst_s := spec2 tEar tRd fun e r => if e.tones.length ≤ 4294967296 ∧ e.rds.length ≤ 4294967296 then some (.tup [.int .i64 (worstOf e r).1, .int .i64 (worstOf e r).2]) else none
theorem rWorst_ok : ∀ xs v, rWorst_s xs = some v → PureV Try.prog 51 xs v :=
  spec2_ok fun e r v h => by have h := someIf h; rw [← h.2]; exact rWorst_p e r h.1.1 h.1.2
def fs115 (f : FuncId) (xs : List AV) : Option AV := if f = 91 then rgates_s xs else if f = 51 then rWorst_s xs else fs114 f xs
theorem fs115_ok : ∀ f xs v, fs115 f xs = some v → PureV Try.prog f xs v := by
  intro f xs v h
  unfold fs115 at h
  split at h
  · rename_i e; subst e; exact rgates_ok _ _ h
  split at h
  · rename_i e; subst e; exact rWorst_ok _ _ h
  exact fs114_ok _ _ _ h
attribute [go_sem] fs115 rgates_s rWorst_s
end Go.Proofs
set_option linter.unusedSimpArgs false
set_option linter.unusedVariables false
set_option maxRecDepth 100000
namespace Go.Proofs
open Go Go.Mu

set_option maxHeartbeats 2000000 in
theorem rWith_m (e : Ear) (r : Rd) (h1 : e.tones.length ≤ 4294967296) (h2 : e.rds.length ≤ 4294967296) : PureV Try.prog 50 [e.av, r.av] (.tup [(withL e r).1.av, .int .i64 (withL e r).2]) := by
  refine PureV.of_ev (E := Try.E 49 Try.ord50 fs115) (Try.envOK 49 Try.ord50 fs115 fs115_ok) (.tup (by simp; exact ⟨Ear.plain _, .int⟩)) Try.kp50 Try.func50 rfl (by kernel_rfl) (by simp [Try.E]) (Callable.of Try.func50 (by kernel_rfl) (by kernel_rfl)) (by kernel_rfl) ?_
  intro σ
  by_cases hc : ck e = 0
  · have he := okE_of_ck hc
    have hlen := he.len
    by_cases hr : ckR r e.tones.length = 0
    · by_cases h6 : e.rds.length = 6
      · have hd : withL e r = (noEar, 6) := by unfold withL; rw [if_neg (by simp [hc]), if_neg (by simp [hr]), if_pos h6]
        rw [hd]
        obtain ⟨s, ts, rs⟩ := e
        obtain ⟨k, a, b, se, ⟨x, y⟩⟩ := r
        simp only [Ear.av, Rd.av]
        simp only at h1 h2 hc hr h6
        simp -implicitDefEqProofs (maxSteps := 2000000) (disch := omega) only [go_sem, reduceCtorEq, Nat.reduceAdd, Nat.reduceSub, Nat.reduceMul, Nat.reduceLT, Nat.reduceLeDiff, Nat.reduceEqDiff, Nat.reduceBEq, Int.reduceToNat, Int.reduceLT, Int.reduceLE, Int.reduceEq, Int.reduceNeg, Int.reduceAdd, Int.reduceSub, Int.reduceMul, ↓reduceIte, Int.reduceBEq, Int.reduceBNe, hc, hr, noEar, List.map_nil]
      · have hm6 : e.rds.length ≤ 6 := by simp only [ck] at hc; grind
        have hck : ck ⟨e.slack, e.tones, e.rds ++ [r]⟩ = 0 := ck_more hc hr (by omega)
        have hd : withL e r = (if mayL ⟨e.slack, e.tones, e.rds ++ [r]⟩ = false then (noEar, 9) else (⟨e.slack, e.tones, e.rds ++ [r]⟩, 0)) := by unfold withL; rw [if_neg (by simp [hc]), if_neg (by simp [hr]), if_neg h6]
        rw [hd]
        have hbt : (truthsR ⟨e.slack, e.tones, e.rds ++ [r]⟩).length ≤ 9261 := truthsR_len (okE_of_ck hck)
        have hmay : mayL ⟨e.slack, e.tones, e.rds ++ [r]⟩ = false ↔ (rallL ⟨e.slack, e.tones, e.rds ++ [r]⟩ []).length = 0 := by
          unfold mayL
          rw [rallL_nil, truthsR_length]
          simp
        rw [← rallL_nil] at hbt
        obtain ⟨s, ts, rs⟩ := e
        obtain ⟨k, a, b, se, ⟨x, y⟩⟩ := r
        simp only [Ear.av, Rd.av]
        simp only at h1 h2 hc hr h6 hck hmay hbt hm6 hlen
        have hdl : ∀ t, decL 6 decRd (.list t 6 (rs.map Rd.av ++ [.agg [.int .i64 k, .int .i64 a, .int .i64 b, .int .i64 se, .int .i64 x, .int .i64 y]])) = some (rs ++ [⟨k, a, b, se, ⟨x, y⟩⟩]) := fun t => decL_rd1
        cases hm : mayL ⟨s, ts, rs ++ [⟨k, a, b, se, ⟨x, y⟩⟩]⟩
        · have hz := hmay.1 hm
          simp -implicitDefEqProofs (maxSteps := 2000000) (disch := omega) only [go_sem, reduceCtorEq, Nat.reduceAdd, Nat.reduceSub, Nat.reduceMul, Nat.reduceLT, Nat.reduceLeDiff, Nat.reduceEqDiff, Nat.reduceBEq, Int.reduceToNat, Int.reduceLT, Int.reduceLE, Int.reduceEq, Int.reduceNeg, Int.reduceAdd, Int.reduceSub, Int.reduceMul, ↓reduceIte, Int.reduceBEq, Int.reduceBNe, hc, hr, hdl, hck, small0, tss, hz]
          simp [noEar]
        · have hz : ¬ (rallL ⟨s, ts, rs ++ [⟨k, a, b, se, ⟨x, y⟩⟩]⟩ []).length = 0 := fun h => by rw [hmay.2 h] at hm; cases hm
          simp -implicitDefEqProofs (maxSteps := 2000000) (disch := omega) only [go_sem, reduceCtorEq, Nat.reduceAdd, Nat.reduceSub, Nat.reduceMul, Nat.reduceLT, Nat.reduceLeDiff, Nat.reduceEqDiff, Nat.reduceBEq, Int.reduceToNat, Int.reduceLT, Int.reduceLE, Int.reduceEq, Int.reduceNeg, Int.reduceAdd, Int.reduceSub, Int.reduceMul, ↓reduceIte, Int.reduceBEq, Int.reduceBNe, hc, hr, hdl, hck, small0, tss, hz]
          simp [Rd.av, Rng.av]
    · have hd : withL e r = (noEar, ckR r e.tones.length) := by unfold withL; rw [if_neg (by simp [hc]), if_pos hr]
      rw [hd]
      obtain ⟨s, ts, rs⟩ := e
      obtain ⟨k, a, b, se, ⟨x, y⟩⟩ := r
      simp only [Ear.av, Rd.av]
      simp only at h1 h2 hc hr
      generalize hq : ckR ⟨k, a, b, se, ⟨x, y⟩⟩ ts.length = q at hr
      simp -implicitDefEqProofs (maxSteps := 2000000) (disch := omega) only [go_sem, reduceCtorEq, Nat.reduceAdd, Nat.reduceSub, Nat.reduceMul, Nat.reduceLT, Nat.reduceLeDiff, Nat.reduceEqDiff, Nat.reduceBEq, Int.reduceToNat, Int.reduceLT, Int.reduceLE, Int.reduceEq, Int.reduceNeg, Int.reduceAdd, Int.reduceSub, Int.reduceMul, ↓reduceIte, Int.reduceBEq, Int.reduceBNe, hc, hq, hr, noEar, List.map_nil]
  · have hd : withL e r = (noEar, ck e) := by unfold withL; rw [if_pos hc]
    rw [hd]
    obtain ⟨s, ts, rs⟩ := e
    obtain ⟨k, a, b, se, ⟨x, y⟩⟩ := r
    simp only [Ear.av, Rd.av]
    simp only at h1 h2 hc
    generalize hq : ck ⟨s, ts, rs⟩ = q at hc
    simp -implicitDefEqProofs (maxSteps := 2000000) (disch := omega) only [go_sem, reduceCtorEq, Nat.reduceAdd, Nat.reduceSub, Nat.reduceMul, Nat.reduceLT, Nat.reduceLeDiff, Nat.reduceEqDiff, Nat.reduceBEq, Int.reduceToNat, Int.reduceLT, Int.reduceLE, Int.reduceEq, Int.reduceNeg, Int.reduceAdd, Int.reduceSub, Int.reduceMul, ↓reduceIte, Int.reduceBEq, Int.reduceBNe, hq, hc, noEar, List.map_nil]
def rWith_m_s := spec2 tEar tRd fun e r => if e.tones.length ≤ 4294967296 ∧ e.rds.length ≤ 4294967296 then some (.tup [(withL e r).1.av, .int .i64 (withL e r).2]) else none
theorem rWith_m_ok : ∀ xs v, rWith_m_s xs = some v → PureV Try.prog 50 xs v :=
  spec2_ok fun e r v h => by have h := someIf h; rw [← h.2]; exact rWith_m e r h.1.1 h.1.2
def fs116 (f : FuncId) (xs : List AV) : Option AV := if f = 50 then rWith_m_s xs else if f = 32 then refByGates_s xs else fs115 f xs
theorem fs116_ok : ∀ f xs v, fs116 f xs = some v → PureV Try.prog f xs v := by
  intro f xs v h
  unfold fs116 at h
  split at h
  · rename_i e; subst e; exact rWith_m_ok _ _ h
  split at h
  · rename_i e; subst e; exact refByGates_ok _ _ h
  exact fs115_ok _ _ _ h
attribute [go_sem] fs116 rWith_m_s refByGates_s
end Go.Proofs
set_option linter.unusedSimpArgs false
set_option linter.unusedVariables false
set_option maxRecDepth 100000
namespace Go.Proofs
open Go Go.Mu

theorem leastL_congr {num num' : Rd → Int} {l : List Rd} (hl : l ≠ []) (h : ∀ r ∈ l, num r = num' r) : leastL num l = leastL num' l := by
  cases l with
  | nil => exact absurd rfl hl
  | cons a l =>
    unfold leastL
    simp only [List.drop_succ_cons, List.drop_zero, List.headD_cons]
    rw [h a (by simp)]
    have : ∀ (l : List Rd) (b : Rd × Int), (∀ r ∈ l, num r = num' r) → l.foldl (leastS num) b = l.foldl (leastS num') b := by
      intro l
      induction l with
      | nil => intro b _; rfl
      | cons x l ih =>
        intro b hx
        simp only [List.foldl_cons, leastS]
        rw [hx x (by simp)]
        exact ih _ fun r hr => hx r (by simp [hr])
    exact this l _ fun r hr => h r (by simp [hr])
set_option maxHeartbeats 2000000 in
theorem rBest_p (e : Ear) (gs : List Int) (h1 : e.tones.length ≤ 4294967296) (h2 : e.rds.length ≤ 4294967296) (h3 : gs.length ≤ 4294967296) :
    PureV Try.prog 52 [e.av, .list .no 1 (gs.map (.int .i64))] (.tup [(bestL e gs).1.1.av, .int .i64 (bestL e gs).1.2, .int .i64 (bestL e gs).2]) := by
  refine PureV.of_ev (E := Try.E 72 Try.ord52 fs116) (Try.envOK 72 Try.ord52 fs116 fs116_ok) (.tup (by simp; exact ⟨Rd.plain _, .int, .int⟩)) Try.kp52 Try.func52 rfl (by kernel_rfl) (by simp [Try.E]) (Callable.of Try.func52 (by kernel_rfl) (by kernel_rfl)) (by kernel_rfl) ?_
  intro σ
  by_cases hk : (askL e (ckGates gs)).2 = 0
  · obtain ⟨hc, hw, hn, hke⟩ := askL_ok hk
    have he := okE_of_ck hc
    have hlen := he.len
    obtain ⟨g1, g2, g3⟩ := ckGates_ok hw
    have hR : rallL e [] = truthsR e := rfl
    have hR0 : truthsR e ≠ [] := fun h => hn (truthsR_nil.1 h)
    have hsl := he.sl
    have hlo : 1 ≤ e.tones.length := by simp only [ck] at hc; grind
    have hne := byGatesL_ne (m := e.tones.length) hlo g1
    have hck := byGatesL_ck (m := e.tones.length) hlen g3
    have hll := byGatesL_len (m := e.tones.length) (gs := gs) hlen (by omega)
    have ho : ∀ r ∈ byGatesL e.tones.length gs, okO r (truthsR e) := fun r hr => okO_truths hc (hck r hr)
    have hd : bestL e gs = (leastL (fun r => rworstL r e.slack (truthsR e)) (byGatesL e.tones.length gs), 0) := by
      unfold bestL
      rw [if_pos hk]
      unfold bestOf
      rw [leastL_congr hne fun r hr => rworst_truths hc (hck r hr)]
    rw [hd]
    obtain ⟨s, ts, rs⟩ := e
    simp only [Ear.av]
    simp only at h1 h2 hc hsl hlen hlo hne hll ho
    have hbt : (truthsR ⟨s, ts, rs⟩).length ≤ 100000 := by have := truthsR_len he; omega
    clear hck hk hke hn he hd
    generalize hBG : byGatesL ts.length gs = BG at hne hll ho ⊢
    generalize truthsR ⟨s, ts, rs⟩ = L at hR hR0 ho hbt ⊢
    have hL0 : ¬ L.length = 0 := fun h => hR0 (List.length_eq_zero_iff.1 h)
    have hp0 : 0 < BG.length := List.length_pos_iff.2 hne
    have hi0 : idx (BG.map Rd.av) 0 = some BG[0].av := idx_map (i := 0) hp0
    have ho0 := ho _ (List.getElem_mem hp0)
    obtain ⟨num, hnum⟩ : ∃ num : Rd → Int, num = fun r => rworstL r s L := ⟨_, rfl⟩
    have hnu : ∀ r, rworstL r s L = num r := fun r => by rw [hnum]
    have hll2 : leastL (fun r => rworstL r s L) BG = (BG.drop 1).foldl (leastS num) (BG[0], num BG[0]) := by
      rw [← hnum]
      cases BG with
      | nil => exact absurd rfl hne
      | cons a b => rfl
    rw [hll2]
    have hft := foldl_take (leastS num) (BG[0], num BG[0]) (BG.drop 1)
    have hfa := foldl_all (leastS num) (BG[0], num BG[0]) (BG.drop 1)
    obtain ⟨F, hF⟩ : ∃ F : Nat → Rd × Int, F = fun i => ((BG.drop 1).take i).foldl (leastS num) (BG[0], num BG[0]) := ⟨_, rfl⟩
    have hF' : ∀ i, ((BG.drop 1).take i).foldl (leastS num) (BG[0], num BG[0]) = F i := fun i => by rw [hF]
    have hF0 : F 0 = (BG[0], num BG[0]) := by rw [hF]; rfl
    simp only [hF'] at hft hfa
    rw [← hfa]
    clear hF hF' hfa hll2 hnum
    have hnu0 := hnu BG[0]
    obtain ⟨b0, hb0⟩ : ∃ y, BG[0] = y := ⟨_, rfl⟩
    rw [hb0] at hi0 ho0 hF0 hnu0
    have hdl : (BG.drop 1).length = BG.length - 1 := by simp
    rw [hdl]
    obtain ⟨k0, x1, x2, x3, ⟨x4, x5⟩⟩ := b0
    simp only [Rd.av] at hi0
    have hg3 : gs.length ≤ 3 := g2
    have hft2 : ∀ i, i < BG.length - 1 → ∀ (h : i + 1 < BG.length), F (i + 1) = leastS num (F i) BG[i + 1] := fun i hi h => by
      rw [hft i (by simp; omega)]
      congr 1
      rw [List.getElem_drop]
      congr 1
      omega
    clear g1 g3 hb0 hft
    have hft := hft2
    clear hft2
    simp -implicitDefEqProofs (maxSteps := 2000000) (disch := omega) only [go_sem, reduceCtorEq, Nat.reduceAdd, Nat.reduceSub, Nat.reduceMul, Nat.reduceLT, Nat.reduceLeDiff, Nat.reduceEqDiff, Nat.reduceBEq, Int.reduceToNat, Int.reduceLT, Int.reduceLE, Int.reduceEq, Int.reduceNeg, Int.reduceAdd, Int.reduceSub, Int.reduceMul, ↓reduceIte, Int.reduceBEq, Int.reduceBNe, hc, hw, small0, hR, tss, hBG, hi0, ho0, hsl, hnu0]
    refine ARun.forS (Try.envOK 72 Try.ord52 fs116 fs116_ok) (BG.length - 1) (fun _ => True) (fun i => [(12, .int .i64 (F i).2), (13, .int .i64 ((i : Int) + 1))]) (fun i j => σ ++ (.cells [.int .i64 s, .list .no 2 (ts.map Rng.av), .list .no 6 (rs.map Rd.av)] :: .cells [.int .i64 0, .int .i64 0, .int .i64 0, .int .i64 0, .int .i64 0, .int .i64 0] :: .cells [.int .i64 (F i).1.kind, .int .i64 (F i).1.a, .int .i64 (F i).1.b, .int .i64 (F i).1.sec, .int .i64 (F i).1.shown.lo, .int .i64 (F i).1.shown.hi] :: j)) [] (by kernel_rfl) (by simp [hF0]) (by simp [upd, ins, subF, lookA, hF0]) trivial ?_ ?_
    · intro i j hi _ ih
      have hi2 : i + 1 < BG.length := by omega
      have hri : idx (BG.map Rd.av) ((i : Int) + 1) = some BG[i + 1].av := by
        have := idx_map (f := Rd.av) hi2
        simpa using this
      have hoi := ho _ (List.getElem_mem hi2)
      have hni := hnu BG[i + 1]
      rw [hft i hi hi2] at ih
      simp only [leastS] at ih
      clear ho hnu hft hF0 hi0 ho0 hnu0
      generalize F i = f at ih ⊢
      obtain ⟨⟨f1, f2, f3, f4, ⟨f5, f6⟩⟩, fn⟩ := f
      generalize BG[i + 1] = bi at hri hoi hni ih
      generalize num bi = ni at hni ih
      obtain ⟨y0, y1, y2, y3, ⟨y4, y5⟩⟩ := bi
      simp only [Rd.av] at hri
      simp only at ih ⊢
      by_cases hlt : ni < fn
      · rw [if_pos hlt] at ih
        simp -implicitDefEqProofs (maxSteps := 2000000) (disch := omega) only [go_sem, reduceCtorEq, Nat.reduceAdd, Nat.reduceSub, Nat.reduceMul, Nat.reduceLT, Nat.reduceLeDiff, Nat.reduceEqDiff, Nat.reduceBEq, Int.reduceToNat, Int.reduceLT, Int.reduceLE, Int.reduceEq, Int.reduceNeg, Int.reduceAdd, Int.reduceSub, Int.reduceMul, ↓reduceIte, Int.reduceBEq, Int.reduceBNe, hri, tss, hoi, hsl, hni]
        exact (ih trivial j).castS rfl (by simp [upd, ins, subF, lookA])
      · rw [if_neg hlt] at ih
        simp -implicitDefEqProofs (maxSteps := 2000000) (disch := omega) only [go_sem, reduceCtorEq, Nat.reduceAdd, Nat.reduceSub, Nat.reduceMul, Nat.reduceLT, Nat.reduceLeDiff, Nat.reduceEqDiff, Nat.reduceBEq, Int.reduceToNat, Int.reduceLT, Int.reduceLE, Int.reduceEq, Int.reduceNeg, Int.reduceAdd, Int.reduceSub, Int.reduceMul, ↓reduceIte, Int.reduceBEq, Int.reduceBNe, hri, tss, hoi, hsl, hni]
        exact (ih trivial j).castS rfl (by simp [upd, ins, subF, lookA])
    · intro j _
      clear ho hnu hft hF0 hi0 ho0 hnu0
      generalize F (BG.length - 1) = f
      obtain ⟨⟨f1, f2, f3, f4, ⟨f5, f6⟩⟩, fn⟩ := f
      have he : ((BG.length - 1 : Nat) : Int) + 1 = BG.length := by omega
      rw [he]
      simp -implicitDefEqProofs (maxSteps := 2000000) (disch := omega) only [go_sem, reduceCtorEq, Nat.reduceAdd, Nat.reduceSub, Nat.reduceMul, Nat.reduceLT, Nat.reduceLeDiff, Nat.reduceEqDiff, Nat.reduceBEq, Int.reduceToNat, Int.reduceLT, Int.reduceLE, Int.reduceEq, Int.reduceNeg, Int.reduceAdd, Int.reduceSub, Int.reduceMul, ↓reduceIte, Int.reduceBEq, Int.reduceBNe, Rd.av]
  · have hd : bestL e gs = ((⟨0, 0, 0, 0, ⟨0, 0⟩⟩, 0), (askL e (ckGates gs)).2) := by unfold bestL; rw [if_neg hk]
    rw [hd]
    rw [askE] at hk ⊢
    obtain ⟨s, ts, rs⟩ := e
    simp only [Ear.av, Rd.av]
    simp only at h1 h2
    by_cases hc : ck ⟨s, ts, rs⟩ = 0
    · rw [if_neg (by simp [hc])] at hk ⊢
      by_cases hw : ckGates gs = 0
      · rw [if_neg (by simp [hw])] at hk ⊢
        have hn : truthsL ⟨s, ts, rs⟩ = [] := by
          apply Classical.byContradiction
          intro h; rw [if_neg h] at hk; exact hk rfl
        have hR2 : rallL ⟨s, ts, rs⟩ [] = [] := truthsR_nil.2 hn
        rw [if_pos hn]
        simp -implicitDefEqProofs (maxSteps := 2000000) (disch := omega) only [go_sem, reduceCtorEq, Nat.reduceAdd, Nat.reduceSub, Nat.reduceMul, Nat.reduceLT, Nat.reduceLeDiff, Nat.reduceEqDiff, Nat.reduceBEq, Int.reduceToNat, Int.reduceLT, Int.reduceLE, Int.reduceEq, Int.reduceNeg, Int.reduceAdd, Int.reduceSub, Int.reduceMul, ↓reduceIte, Int.reduceBEq, Int.reduceBNe, hc, hw, small0, hR2, tss, List.map_nil]
      · rw [if_pos hw]
        generalize hq : ckGates gs = q at hw ⊢
        simp -implicitDefEqProofs (maxSteps := 2000000) (disch := omega) only [go_sem, reduceCtorEq, Nat.reduceAdd, Nat.reduceSub, Nat.reduceMul, Nat.reduceLT, Nat.reduceLeDiff, Nat.reduceEqDiff, Nat.reduceBEq, Int.reduceToNat, Int.reduceLT, Int.reduceLE, Int.reduceEq, Int.reduceNeg, Int.reduceAdd, Int.reduceSub, Int.reduceMul, ↓reduceIte, Int.reduceBEq, Int.reduceBNe, hc, hq, hw]
    · rw [if_pos hc]
      simp -implicitDefEqProofs (maxSteps := 2000000) (disch := omega) only [go_sem, reduceCtorEq, Nat.reduceAdd, Nat.reduceSub, Nat.reduceMul, Nat.reduceLT, Nat.reduceLeDiff, Nat.reduceEqDiff, Nat.reduceBEq, Int.reduceToNat, Int.reduceLT, Int.reduceLE, Int.reduceEq, Int.reduceNeg, Int.reduceAdd, Int.reduceSub, Int.reduceMul, ↓reduceIte, Int.reduceBEq, Int.reduceBNe, hc]
def rBest_s := spec2 tEar tIs fun e gs => if e.tones.length ≤ 4294967296 ∧ e.rds.length ≤ 4294967296 ∧ gs.length ≤ 4294967296 then some (.tup [(bestL e gs).1.1.av, .int .i64 (bestL e gs).1.2, .int .i64 (bestL e gs).2]) else none
theorem rBest_ok : ∀ xs v, rBest_s xs = some v → PureV Try.prog 52 xs v :=
  spec2_ok fun e gs v h => by have h := someIf h; rw [← h.2]; exact rBest_p e gs h.1.1 h.1.2.1 h.1.2.2
end Go.Proofs
set_option linter.unusedSimpArgs false
set_option linter.unusedVariables false
set_option maxRecDepth 100000
namespace Go.Proofs
open Go Go.Mu

theorem cints_p (l : List Int) (hl : l.length ≤ 4294967296) : PureV Try.prog 22 [.list .no 1 (l.map (.int .i64))] (.list .no 1 (l.map (.int .i64))) := by
  refine PureV.of_ev (E := Try.E 6 (fun _ => ([], [])) fs0) (Try.envOK 6 (fun _ => ([], [])) fs0 fs0_ok) (plain_ints _) Try.kp22 Try.func22 rfl (by kernel_rfl) (by simp [Try.E]) (Callable.of Try.func22 (by kernel_rfl) (by kernel_rfl)) (by kernel_rfl) ?_
  intro σ
  simp -implicitDefEqProofs (maxSteps := 2000000) (disch := omega) only [go_sem, reduceCtorEq, Nat.reduceAdd, Nat.reduceSub, Nat.reduceMul, Nat.reduceLT, Nat.reduceLeDiff, Nat.reduceEqDiff, Nat.reduceBEq, Int.reduceToNat, Int.reduceLT, Int.reduceLE, Int.reduceEq, Int.reduceNeg, Int.reduceAdd, Int.reduceSub, Int.reduceMul, ↓reduceIte, Int.reduceBEq, Int.reduceBNe]
def cints_s := spec1 tIs fun l => if l.length ≤ 4294967296 then some (.list .no 1 (l.map (.int .i64))) else none
theorem cints_ok : ∀ xs v, cints_s xs = some v → PureV Try.prog 22 xs v :=
  spec1_ok fun l v h => by have h := someIf h; rw [← h.2]; exact cints_p l h.1
def choicesS (n : Int) (x : Rng) : Int := n * (x.hi - x.lo + 1)
/-- Whether an ear has too many choices of tones. -/
def crowdB (e : Ear) (most : Int) : Bool := if 20 < e.tones.length ∨ 20 < e.rds.length then true else if ck e ≠ 0 then false else decide (most < e.tones.foldl choicesS 1)
theorem choices_bd : ∀ (ts : List Rng) (n : Int) (b : Int), (∀ x ∈ ts, 1 ≤ x.hi - x.lo + 1 ∧ x.hi - x.lo + 1 ≤ 21) → 1 ≤ n ∧ n ≤ b → 1 ≤ ts.foldl choicesS n ∧ ts.foldl choicesS n ≤ b * 21 ^ ts.length
  | [], n, b, _, h => by simpa using h
  | x :: ts, n, b, h, hn => by
    have hx := h x (by simp)
    have h1 : 1 ≤ choicesS n x ∧ choicesS n x ≤ b * 21 := by
      unfold choicesS
      refine ⟨?_, Int.mul_le_mul hn.2 hx.2 (by omega) (by omega)⟩
      have := Int.mul_le_mul hn.1 hx.1 (by omega) (by omega)
      omega
    have := choices_bd ts (choicesS n x) (b * 21) (fun y hy => h y (by simp [hy])) h1
    simp only [List.foldl_cons, List.length_cons, Int.pow_succ]
    rw [Int.mul_assoc, Int.mul_comm 21] at this
    exact this
def fs24 (f : FuncId) (xs : List AV) : Option AV := if f = 22 then cints_s xs else if f = 67 then rcheck_s xs else if f = 50 then rWith_m_s xs else if f = 51 then rWorst_s xs else if f = 52 then rBest_s xs else fs23 f xs
theorem fs24_ok : ∀ f xs v, fs24 f xs = some v → PureV Try.prog f xs v := by
  intro f xs v h
  unfold fs24 at h
  split at h
  · rename_i e; subst e; exact cints_ok _ _ h
  split at h
  · rename_i e; subst e; exact rcheck_ok _ _ h
  split at h
  · rename_i e; subst e; exact rWith_m_ok _ _ h
  split at h
  · rename_i e; subst e; exact rWorst_ok _ _ h
  split at h
  · rename_i e; subst e; exact rBest_ok _ _ h
  exact fs23_ok _ _ _ h
attribute [go_sem] fs24 cints_s rcheck_s rWith_m_s rWorst_s rBest_s
set_option maxHeartbeats 1000000 in
theorem crowd_p (e : Ear) (most : Int) (h1 : e.tones.length ≤ 4294967296) (h2 : e.rds.length ≤ 4294967296) : PureV Try.prog 14 [e.av, .int .i64 most] (.bool (crowdB e most)) := by
  refine PureV.of_ev (E := Try.E 38 Try.ord14 fs24) (Try.envOK 38 Try.ord14 fs24 fs24_ok) (.bool) Try.kp14 Try.func14 rfl (by kernel_rfl) (by simp [Try.E]) (Callable.of Try.func14 (by kernel_rfl) (by kernel_rfl)) (by kernel_rfl) ?_
  intro σ
  unfold crowdB
  by_cases hl : 20 < e.tones.length ∨ 20 < e.rds.length
  · rw [if_pos hl]
    have hd : decide (20 < e.tones.length ∨ 20 < e.rds.length) = true := decide_eq_true hl
    clear hl
    simp only [Ear.av]
    simp -implicitDefEqProofs (maxSteps := 2000000) (disch := omega) only [go_sem, reduceCtorEq, Nat.reduceAdd, Nat.reduceSub, Nat.reduceMul, Nat.reduceLT, Nat.reduceLeDiff, Nat.reduceEqDiff, Nat.reduceBEq, Int.reduceToNat, Int.reduceLT, Int.reduceLE, Int.reduceEq, Int.reduceNeg, Int.reduceAdd, Int.reduceSub, Int.reduceMul, ↓reduceIte, Int.reduceBEq, Int.reduceBNe, hd]
  · rw [if_neg hl]
    have hd : decide (20 < e.tones.length ∨ 20 < e.rds.length) = false := decide_eq_false hl
    by_cases hc : ck e = 0
    · rw [if_neg (by simp [hc])]
      have he := okE_of_ck hc
      have hlen := he.len
      have htn := he.tone
      obtain ⟨s, ts, rs⟩ := e
      simp only [Ear.av]
      simp only at h1 h2 hc hd hlen htn
      have h6 : rs.length ≤ 6 := by simp only [ck] at hc; grind
      clear hl
      have hft := foldl_take choicesS 1 ts
      have hfa := foldl_all choicesS 1 ts
      have hbd : ∀ i, 1 ≤ (ts.take i).foldl choicesS 1 ∧ (ts.take i).foldl choicesS 1 ≤ 1000000 := fun i => by
        have := choices_bd (ts.take i) 1 1 (fun x hx => by have := htn x (List.mem_of_mem_take hx); omega) ⟨by omega, by omega⟩
        have hp : (21 : Int) ^ (ts.take i).length ≤ 21 ^ 3 := by
          have : (21 : Nat) ^ (ts.take i).length ≤ 21 ^ 3 := Nat.pow_le_pow_right (by omega) (by rw [List.length_take]; omega)
          exact_mod_cast this
        omega
      simp -implicitDefEqProofs (maxSteps := 2000000) (disch := omega) only [go_sem, reduceCtorEq, Nat.reduceAdd, Nat.reduceSub, Nat.reduceMul, Nat.reduceLT, Nat.reduceLeDiff, Nat.reduceEqDiff, Nat.reduceBEq, Int.reduceToNat, Int.reduceLT, Int.reduceLE, Int.reduceEq, Int.reduceNeg, Int.reduceAdd, Int.reduceSub, Int.reduceMul, ↓reduceIte, Int.reduceBEq, Int.reduceBNe, hd, hc]
      refine ARun.forS (Try.envOK 38 Try.ord14 fs24 fs24_ok) ts.length (fun _ => True) (fun i => [(5, .int .i64 ((ts.take i).foldl choicesS 1)), (6, .int .i64 i)]) (fun i j => σ ++ (.cells [.int .i64 s, .list .no 2 (ts.map Rng.av), .list .no 6 (rs.map Rd.av)] :: j)) [] (by kernel_rfl) rfl (by simp [upd, ins, subF, lookA]) trivial ?_ ?_
      · intro i j hi _ ih
        have hri := idxR hi
        have hti := htn _ (List.getElem_mem hi)
        have hb := hbd i
        have hb2 := hbd (i + 1)
        rw [hft i hi] at ih hb2
        simp only [choicesS] at ih hb2
        generalize (ts.take i).foldl choicesS 1 = n at hb ih hb2 ⊢
        generalize ts[i] = x at hri hti ih hb2
        obtain ⟨lo, hi'⟩ := x
        simp only [Rng.av] at hri
        simp only at hti ih hb2
        have hw1 : IntKind.i64.wrap (hi' - lo) = hi' - lo := wrap64 (by omega) (by omega)
        have hw2 : IntKind.i64.wrap (hi' - lo + 1) = hi' - lo + 1 := wrap64 (by omega) (by omega)
        have hw3 : IntKind.i64.wrap (n * (hi' - lo + 1)) = n * (hi' - lo + 1) := wrap64 (by omega) (by omega)
        clear hbd hft htn hb hb2 hti hfa
        simp -implicitDefEqProofs (maxSteps := 2000000) (disch := omega) only [go_sem, reduceCtorEq, Nat.reduceAdd, Nat.reduceSub, Nat.reduceMul, Nat.reduceLT, Nat.reduceLeDiff, Nat.reduceEqDiff, Nat.reduceBEq, Int.reduceToNat, Int.reduceLT, Int.reduceLE, Int.reduceEq, Int.reduceNeg, Int.reduceAdd, Int.reduceSub, Int.reduceMul, ↓reduceIte, Int.reduceBEq, Int.reduceBNe, hri, hw1, hw2, hw3]
        exact (ih trivial j).castS rfl (by simp [upd, ins, subF, lookA])
      · intro j _
        rw [hfa]
        clear hbd hft htn
        simp -implicitDefEqProofs (maxSteps := 2000000) (disch := omega) only [go_sem, reduceCtorEq, Nat.reduceAdd, Nat.reduceSub, Nat.reduceMul, Nat.reduceLT, Nat.reduceLeDiff, Nat.reduceEqDiff, Nat.reduceBEq, Int.reduceToNat, Int.reduceLT, Int.reduceLE, Int.reduceEq, Int.reduceNeg, Int.reduceAdd, Int.reduceSub, Int.reduceMul, ↓reduceIte, Int.reduceBEq, Int.reduceBNe]
        refine ⟨fun h => ?_, fun h => ?_⟩ <;> simp [h]
    · rw [if_pos hc]
      simp only [Ear.av]
      have hc' : ¬ ck ⟨e.slack, e.tones, e.rds⟩ = 0 := hc
      clear hl
      simp -implicitDefEqProofs (maxSteps := 2000000) (disch := omega) only [go_sem, reduceCtorEq, Nat.reduceAdd, Nat.reduceSub, Nat.reduceMul, Nat.reduceLT, Nat.reduceLeDiff, Nat.reduceEqDiff, Nat.reduceBEq, Int.reduceToNat, Int.reduceLT, Int.reduceLE, Int.reduceEq, Int.reduceNeg, Int.reduceAdd, Int.reduceSub, Int.reduceMul, ↓reduceIte, Int.reduceBEq, Int.reduceBNe, hd, hc']
def crowd_s := spec2 tEar tI fun e most => if e.tones.length ≤ 4294967296 ∧ e.rds.length ≤ 4294967296 then some (.bool (crowdB e most)) else none
theorem crowd_ok : ∀ xs v, crowd_s xs = some v → PureV Try.prog 14 xs v :=
  spec2_ok fun e m v h => by have h := someIf h; rw [← h.2]; exact crowd_p e m h.1.1 h.1.2
def fs25 (f : FuncId) (xs : List AV) : Option AV := if f = 14 then crowd_s xs else fs24 f xs
theorem fs25_ok : ∀ f xs v, fs25 f xs = some v → PureV Try.prog f xs v := by
  intro f xs v h
  unfold fs25 at h
  split at h
  · rename_i e; subst e; exact crowd_ok _ _ h
  exact fs24_ok _ _ _ h
attribute [go_sem] fs25 crowd_s
end Go.Proofs
set_option linter.unusedSimpArgs false
set_option linter.unusedVariables false
set_option maxRecDepth 100000
namespace Go.Proofs
open Go Go.Mu

/-- Numbers and truth values, one after the other: no number has both. -/
theorem foldD : ∀ (ps : List (Int × Bool)) (m : List (Int × Bool)), (ps.foldl (fun m p => stepD p.2 m p.1) (some m)).isSome = true ↔ (∀ p ∈ ps, mget m p.1 ≠ some (!p.2)) ∧ (∀ p ∈ ps, ∀ q ∈ ps, p.1 = q.1 → p.2 = q.2)
  | [], m => by simp
  | (k, b) :: ps, m => by
    simp only [List.foldl_cons]
    by_cases h : mget m k = some (!b)
    · have e : stepD b (some m) k = none := by simp [stepD, h]
      rw [e, foldl_none (fun a => rfl)]
      simp only [Option.isSome_none, Bool.false_eq_true, false_iff]
      intro hh
      exact hh.1 (k, b) (by simp) h
    · have e : stepD b (some m) k = some (mset m k b) := by simp [stepD, h]
      rw [e, foldD ps (mset m k b)]
      constructor
      · rintro ⟨h1, h2⟩
        have h3 : ∀ p ∈ ps, p.1 = k → p.2 = b := fun p hp hk => by
          have := h1 p hp
          rw [mget_mset', if_pos hk] at this
          cases hb : p.2 <;> cases b <;> simp_all
        refine ⟨fun p hp => ?_, fun p hp q hq hpq => ?_⟩
        · rcases List.mem_cons.1 hp with rfl | hp
          · exact h
          · have := h1 p hp
            rw [mget_mset'] at this
            split at this
            · rename_i hk
              rw [h3 p hp hk, hk]; exact h
            · exact this
        · rcases List.mem_cons.1 hp with rfl | hp <;> rcases List.mem_cons.1 hq with rfl | hq
          · rfl
          · exact (h3 q hq hpq.symm).symm
          · exact h3 p hp hpq
          · exact h2 p hp q hq hpq
      · rintro ⟨h1, h2⟩
        refine ⟨fun p hp => ?_, fun p hp q hq => h2 p (by simp [hp]) q (by simp [hq])⟩
        rw [mget_mset']
        split
        · rename_i hk
          have := h2 p (by simp [hp]) (k, b) (by simp) hk
          simp only at this
          rw [this]; cases b <;> simp
        · exact h1 p (by simp [hp])
theorem decides_iff {x : Int} {w : Rng} {r : Rd} {sl : Int} {l : List (List Int)} : decidesL x w r sl l = true ↔ ∀ t ∈ l, ∀ u ∈ l, ∀ k, k ∈ showsL r sl t → k ∈ showsL r sl u → qis x w t = qis x w u := by
  have e : l.foldl (decS x w r sl) (some []) = (l.flatMap fun t => (showsL r sl t).map fun k => (k, qis x w t)).foldl (fun m p => stepD p.2 m p.1) (some []) := by
    rw [List.foldl_flatMap]
    congr 1
    funext m t
    rw [List.foldl_map]
    rfl
  unfold decidesL
  rw [e, foldD]
  constructor
  · rintro ⟨_, h⟩ t ht u hu k hk hk'
    exact h (k, qis x w t) (List.mem_flatMap.2 ⟨t, ht, List.mem_map.2 ⟨k, hk, rfl⟩⟩) (k, qis x w u) (List.mem_flatMap.2 ⟨u, hu, List.mem_map.2 ⟨k, hk', rfl⟩⟩) rfl
  · intro h
    refine ⟨fun p _ => by simp [mget, fIdx], fun p hp q hq hpq => ?_⟩
    obtain ⟨t, ht, h1⟩ := List.mem_flatMap.1 hp
    obtain ⟨u, hu, h2⟩ := List.mem_flatMap.1 hq
    obtain ⟨k, hk, rfl⟩ := List.mem_map.1 h1
    obtain ⟨k', hk', rfl⟩ := List.mem_map.1 h2
    simp only at hpq ⊢
    subst hpq
    exact h t ht u hu k hk hk'
theorem qin_iff {x : Int} {w : Rng} {l : List (List Int)} : qin x w l = true ↔ ∀ t ∈ l, ∀ u ∈ l, qis x w t = qis x w u := by
  unfold qin
  rw [decide_eq_true_eq]
  have hv : verd (l.filter (qis x w)).length l.length ≠ 3 ↔ (l.filter (qis x w)).length = l.length ∨ (l.filter (qis x w)).length = 0 := by unfold verd; grind
  rw [hv, List.length_filter_eq_length_iff, List.length_eq_zero_iff, List.filter_eq_nil_iff]
  constructor
  · rintro (h | h) t ht u hu
    · rw [h t ht, h u hu]
    · have h1 := h t ht; have h2 := h u hu
      cases hq : qis x w t <;> cases hq2 : qis x w u <;> simp_all
  · intro h
    cases l with
    | nil => left; simp
    | cons a l =>
      cases hq : qis x w a
      · right; intro t ht; rw [← h a (by simp) t ht, hq]; simp
      · left; intro t ht; rw [← h a (by simp) t ht, hq]
theorem decides_out {x : Int} {w : Rng} {r : Rd} {sl : Int} {l : List (List Int)} : decidesL x w r sl l = true ↔ ∀ c, qin x w (outO r sl l c) = true := by
  rw [decides_iff]
  constructor
  · intro h c
    rw [qin_iff]
    intro t ht u hu
    unfold outO at ht hu
    rw [List.mem_filter, decide_eq_true_eq] at ht hu
    exact h t ht.1 u hu.1 c ht.2 hu.2
  · intro h t ht u hu k hk hk'
    exact qin_iff.1 (h k) t (by unfold outO; rw [List.mem_filter, decide_eq_true_eq]; exact ⟨ht, hk⟩) u (by unfold outO; rw [List.mem_filter, decide_eq_true_eq]; exact ⟨hu, hk'⟩)
/-- Whether at most so many readings decide: by the reference. -/
def decR (x : Int) (w : Rng) (rl : List Rd) (sl : Int) : Nat → List (List Int) → Bool
  | 0, L => qin x w L
  | n + 1, L => qin x w L || rl.any fun r => (outsR r sl L).all fun l => decR x w rl sl n l
theorem qin_take {x : Int} {w : Rng} {l : List (List Int)} {m : Nat} (h0 : 0 ≤ x) (h : x < m) : qin x w (l.map (List.take m)) = qin x w l := by
  unfold qin
  rw [List.filter_map, List.length_map, List.length_map]
  have : qis x w ∘ List.take m = qis x w := by funext t; simp only [Function.comp, qis]; rw [tg_take h h0]
  rw [this]
theorem qin_nil {x : Int} {w : Rng} : qin x w [] = true := by unfold qin verd; simp
section
variable {e : Ear} {x : Int} {w : Rng} {rl : List Rd} {sl : Int} {l : List (List Int)}
theorem outs_all (p q : List (List Int) → Bool) {r : Rd} (hsl : 0 ≤ sl) (hm : e.tones.length ≤ 3) (hr : ckR r e.tones.length = 0) (hl : ∀ t ∈ l, small t) (hpq : ∀ c, outO r sl l c ≠ [] → p ((outO r sl l c).map (List.take e.tones.length)) = q (outO r sl l c)) :
    ((outsR r sl (l.map (List.take e.tones.length))).all p = true) ↔ ∀ c, outO r sl l c ≠ [] → q (outO r sl l c) = true := by
  have hok := okR_of_ck hm hr
  obtain ⟨x1, x2⟩ := ckR_idx hr
  have ho : ∀ c, outR r sl (l.map (List.take e.tones.length)) c = (outO r sl l c).map (List.take e.tones.length) := fun c =>
    outR_take hsl l (fun t ht => (mul_le (small_tg (hl t ht) r.a) hok.2.2.2.1).1) ⟨hok.2.1.1, x1⟩ (fun h => ⟨hok.2.2.1.1, x2 h⟩) c
  rw [List.all_eq_true]
  constructor
  · intro h c hc
    rw [← hpq c hc]
    exact h _ (mem_outsR.2 ⟨by simpa using hc, c, (ho c).symm⟩)
  · intro h a ha
    obtain ⟨hne, c, rfl⟩ := mem_outsR.1 ha
    rw [ho] at hne ⊢
    have hc : outO r sl l c ≠ [] := by simpa using hne
    rw [hpq c hc]; exact h c hc
theorem decR_one (hsl : 0 ≤ sl) (hm : e.tones.length ≤ 3) (hx : 0 ≤ x ∧ x < e.tones.length) (hr : ∀ r ∈ rl, ckR r e.tones.length = 0) (hl : ∀ t ∈ l, small t) : decR x w rl sl 1 (l.map (List.take e.tones.length)) = oneL x w rl sl l := by
  unfold oneL
  simp only [decR]
  rw [qin_take hx.1 hx.2]
  congr 1
  rw [Bool.eq_iff_iff, List.any_eq_true, List.any_eq_true]
  have key : ∀ r ∈ rl, ((outsR r sl (l.map (List.take e.tones.length))).all (fun l => qin x w l) = true) ↔ decidesL x w r sl l = true := fun r h => by
    rw [outs_all (fun l => qin x w l) (fun l => qin x w l) hsl hm (hr r h) hl (fun c _ => qin_take hx.1 hx.2), decides_out]
    constructor
    · intro h c
      by_cases hc : outO r sl l c = []
      · rw [hc]; exact qin_nil
      · exact h c hc
    · intro h c _; exact h c
  constructor
  · rintro ⟨r, h1, h2⟩; exact ⟨r, h1, (key r h1).1 h2⟩
  · rintro ⟨r, h1, h2⟩; exact ⟨r, h1, (key r h1).2 h2⟩
theorem outO_small {r : Rd} {c : Int} (hl : ∀ t ∈ l, small t) : ∀ t ∈ outO r sl l c, small t := fun t ht => hl t (List.mem_filter.1 ht).1
theorem decR_two (hsl : 0 ≤ sl) (hm : e.tones.length ≤ 3) (hx : 0 ≤ x ∧ x < e.tones.length) (hr : ∀ r ∈ rl, ckR r e.tones.length = 0) (hl : ∀ t ∈ l, small t) : decR x w rl sl 2 (l.map (List.take e.tones.length)) = (qin x w l || twoL x w rl sl l) := by
  unfold twoL
  rw [show decR x w rl sl 2 (l.map (List.take e.tones.length)) = (qin x w (l.map (List.take e.tones.length)) || rl.any fun r => (outsR r sl (l.map (List.take e.tones.length))).all fun l => decR x w rl sl 1 l) from rfl]
  rw [qin_take hx.1 hx.2]
  congr 1
  rw [Bool.eq_iff_iff, List.any_eq_true, List.any_eq_true]
  have key : ∀ r ∈ rl, ((outsR r sl (l.map (List.take e.tones.length))).all (fun l => decR x w rl sl 1 l) = true) ↔ ((outcomesL r sl l).all fun p => oneL x w rl sl p.2) = true := fun r h => by
    rw [outs_all (fun l => decR x w rl sl 1 l) (fun l => oneL x w rl sl l) hsl hm (hr r h) hl (fun c _ => decR_one hsl hm hx hr (outO_small hl)), List.all_eq_true]
    constructor
    · intro h p hp
      obtain ⟨h1, h2⟩ := outcomes_iff.1 hp
      rw [h1] at h2 ⊢
      exact h _ h2
    · intro h c hc
      exact h (c, outO r sl l c) (outcomes_iff.2 ⟨rfl, hc⟩)
  constructor
  · rintro ⟨r, h1, h2⟩; exact ⟨r, h1, (key r h1).1 h2⟩
  · rintro ⟨r, h1, h2⟩; exact ⟨r, h1, (key r h1).2 h2⟩
end
/-- Whether a count leaves a tongue known within a width: by the reference. -/
def gateR (sl : Int) (L : List (List Int)) (x width s : Int) : Bool := (outsR ⟨1, x, 0, s, ⟨0, 0⟩⟩ sl L).all fun l => decide ((spanL (fun t => tg t x) l).hi - (spanL (fun t => tg t x) l).lo ≤ width)
theorem gateR_eq {e : Ear} {sl x width s : Int} {l : List (List Int)} (hsl : 0 ≤ sl) (hm : e.tones.length ≤ 3) (hx : 0 ≤ x ∧ x < e.tones.length) (hs : 1 ≤ s ∧ s ≤ 20) (hl : ∀ t ∈ l, small t) : gateR sl (l.map (List.take e.tones.length)) x width s = gateS sl l x width s := by
  unfold gateR gateS
  have hr : ckR ⟨1, x, 0, s, ⟨0, 0⟩⟩ e.tones.length = 0 := by simp only [ckR]; grind
  have := outs_all (e := e) (l := l) (fun l => decide ((spanL (fun t => tg t x) l).hi - (spanL (fun t => tg t x) l).lo ≤ width)) (fun l => decide ((spanL (fun t => tg t x) l).hi - (spanL (fun t => tg t x) l).lo ≤ width)) hsl hm hr hl (fun c hc => by
    have e1 : spanL (fun t => tg t x) ((outO ⟨1, x, 0, s, ⟨0, 0⟩⟩ sl l c).map (List.take e.tones.length)) = spanL (fun t => tg t x) (outO ⟨1, x, 0, s, ⟨0, 0⟩⟩ sl l c) := by
      rw [spanL_map _ _ hc]
      exact spanL_congr hc fun t _ => tg_take hx.2 hx.1
    simp only [e1])
  rw [Bool.eq_iff_iff, this, List.all_eq_true]
  constructor
  · intro h p hp
    obtain ⟨h1, h2⟩ := outcomes_iff.1 hp
    rw [h1] at h2 ⊢
    exact h _ h2
  · intro h c hc
    exact h (c, outO _ sl l c) (outcomes_iff.2 ⟨rfl, hc⟩)
end Go.Proofs
set_option linter.unusedSimpArgs false
set_option linter.unusedVariables false
set_option maxRecDepth 100000
namespace Go.Proofs
open Go Go.Mu

theorem span_bd {x : Int} {l : List (List Int)} (hl : l ≠ []) (hs : ∀ t ∈ l, small t) : (0 ≤ (spanL (fun t => tg t x) l).lo ∧ (spanL (fun t => tg t x) l).lo ≤ 1000000) ∧ (0 ≤ (spanL (fun t => tg t x) l).hi ∧ (spanL (fun t => tg t x) l).hi ≤ 1000000) := by
  obtain ⟨_, ⟨a, ha, ha2⟩, ⟨b, hb, hb2⟩⟩ := spanL_spec (num := fun t => tg t x) hl
  have h1 := small_tg (hs a ha) x
  have h2 := small_tg (hs b hb) x
  omega
theorem all_take_succ {α : Type} {f : α → Bool} {l : List α} {i : Nat} (h : i < l.length) : (l.take (i + 1)).all f = ((l.take i).all f && f l[i]) := by
  rw [List.take_succ_eq_append_getElem h, List.all_append]; simp
theorem any_take_succ {α : Type} {f : α → Bool} {l : List α} {i : Nat} (h : i < l.length) : (l.take (i + 1)).any f = ((l.take i).any f || f l[i]) := by
  rw [List.take_succ_eq_append_getElem h, List.any_append]; simp
def fs117 (f : FuncId) (xs : List AV) : Option AV := if f = 52 then rBest_s xs else fs116 f xs
theorem fs117_ok : ∀ f xs v, fs117 f xs = some v → PureV Try.prog f xs v := by
  intro f xs v h
  unfold fs117 at h
  split at h
  · rename_i e; subst e; exact rBest_ok _ _ h
  exact fs116_ok _ _ _ h
attribute [go_sem] fs117 rBest_s
def gateV : Option Nat → Int × Int
  | some k => ((k : Int) + 1, 0)
  | none => (0, 11)
set_option maxHeartbeats 4000000 in
theorem rGate_p (e : Ear) (x width : Int) (h1 : e.tones.length ≤ 4294967296) (h2 : e.rds.length ≤ 4294967296) : PureV Try.prog 24 [e.av, .int .i64 x, .int .i64 width] (.tup [.int .i64 (gateL e x width).1, .int .i64 (gateL e x width).2]) := by
  refine PureV.of_ev (E := Try.E 63 (fun _ => ([], [])) fs117) (Try.envOK 63 (fun _ => ([], [])) fs117 fs117_ok) (ii_plain) Try.kp24 Try.func24 rfl (by kernel_rfl) (by simp [Try.E]) (Callable.of Try.func24 (by kernel_rfl) (by kernel_rfl)) (by kernel_rfl) ?_
  intro σ
  by_cases hk : (askL e (gateW e.tones.length x width)).2 = 0
  · obtain ⟨hc, hw, hn, hke⟩ := askL_ok hk
    have he := okE_of_ck hc
    have hlen := he.len
    have hx : 0 ≤ x ∧ x ≤ e.tones.length - 1 := by unfold gateW at hw; grind
    have hwd : 0 ≤ width := by unfold gateW at hw; grind
    have hR : rallL e [] = truthsR e := rfl
    have hR0 : truthsR e ≠ [] := fun h => hn (truthsR_nil.1 h)
    have hsl := he.sl
    have ho : ∀ s, 1 ≤ s ∧ s ≤ 20 → okO ⟨1, x, 0, s, ⟨0, 0⟩⟩ (truthsR e) := fun s hs => okO_truths hc (by simp only [ckR]; grind)
    have hok := truthsR_ok he
    have hgs : ∀ s, 1 ≤ s ∧ s ≤ 20 → gateR e.slack (truthsR e) x width s = gateS e.slack (truthsL e) x width s := fun s hs => gateR_eq hsl.1 hlen ⟨hx.1, by omega⟩ hs fun t ht => (truthsL_ok he t ht).2
    have hd : gateL e x width = gateV ((List.range 20).find? (fun k : Nat => gateS e.slack (truthsL e) x width (k + 1))) := by
      unfold gateL; rw [if_pos hk]
      generalize (List.range 20).find? _ = o
      cases o <;> rfl
    rw [hd]
    obtain ⟨sl, ts, rs⟩ := e
    simp only [Ear.av]
    dsimp only at *
    have hbt : (truthsR ⟨sl, ts, rs⟩).length ≤ 100000 := (ho 1 (by omega)).2.1
    have hinT : inT x (truthsR ⟨sl, ts, rs⟩) := fun t ht => by rw [(hok t ht).1]; omega
    have hsm : ∀ t ∈ truthsR ⟨sl, ts, rs⟩, small t := fun t ht => (hok t ht).2
    clear hk hke hn he hd hw hok
    generalize truthsL ⟨sl, ts, rs⟩ = TL at hgs ⊢
    obtain ⟨V, hV⟩ : ∃ V, gateV ((List.range 20).find? (fun k : Nat => gateS sl TL x width (k + 1))) = V := ⟨_, rfl⟩
    rw [hV]
    generalize truthsR ⟨sl, ts, rs⟩ = L at hR hR0 ho hbt hgs hinT hsm
    have hL0 : ¬ L.length = 0 := fun h => hR0 (List.length_eq_zero_iff.1 h)
    have hxd : decide (0 ≤ x ∧ x ≤ (ts.length : Int) - 1) = true := decide_eq_true hx
    simp -implicitDefEqProofs (maxSteps := 2000000) (disch := omega) only [go_sem, reduceCtorEq, Nat.reduceAdd, Nat.reduceSub, Nat.reduceMul, Nat.reduceLT, Nat.reduceLeDiff, Nat.reduceEqDiff, Nat.reduceBEq, Int.reduceToNat, Int.reduceLT, Int.reduceLE, Int.reduceEq, Int.reduceNeg, Int.reduceAdd, Int.reduceSub, Int.reduceMul, ↓reduceIte, Int.reduceBEq, Int.reduceBNe, hc, small0, hR, tss]
    refine ARun.forS (Try.envOK 63 (fun _ => ([], [])) fs117 fs117_ok) 20 (fun i => ∀ k, k < i → gateS sl TL x width (k + 1) = false) (fun i => [(10, .int .i64 ((i : Int) + 1))]) (fun i j => σ ++ (.cells [.int .i64 sl, .list .no 2 (ts.map Rng.av), .list .no 6 (rs.map Rd.av)] :: j)) [] (by kernel_rfl) rfl (by simp [upd, ins, subF, lookA]) (fun k hk => by omega) ?_ ?_
    · intro i j hi hP ih
      have hos := ho ((i : Int) + 1) (by omega)
      have hg := hgs ((i : Int) + 1) (by omega)
      have hol := outsR_len hsl hos
      have hoe : ∀ l ∈ outsR ⟨1, x, 0, (i : Int) + 1, ⟨0, 0⟩⟩ sl L, l ≠ [] ∧ l.length ≤ 100000 ∧ inT x l ∧ ∀ t ∈ l, small t := fun l hl => by
        obtain ⟨a1, a2, a3⟩ := outs_elem hl
        exact ⟨a1, by omega, fun t ht => hinT t (a3 t ht), fun t ht => hsm t (a3 t ht)⟩
      unfold gateR at hg
      clear ho hgs
      simp -implicitDefEqProofs (maxSteps := 2000000) (disch := omega) only [go_sem, reduceCtorEq, Nat.reduceAdd, Nat.reduceSub, Nat.reduceMul, Nat.reduceLT, Nat.reduceLeDiff, Nat.reduceEqDiff, Nat.reduceBEq, Int.reduceToNat, Int.reduceLT, Int.reduceLE, Int.reduceEq, Int.reduceNeg, Int.reduceAdd, Int.reduceSub, Int.reduceMul, ↓reduceIte, Int.reduceBEq, Int.reduceBNe, hos, hsl, tsss]
      generalize outsR ⟨1, x, 0, (i : Int) + 1, ⟨0, 0⟩⟩ sl L = O at hg hol hoe ⊢
      refine ARun.forS (Try.envOK 63 (fun _ => ([], [])) fs117 fs117_ok) O.length (fun _ => True) (fun k => [(12, .bool ((O.take k).all fun l => decide ((spanL (fun t => tg t x) l).hi - (spanL (fun t => tg t x) l).lo ≤ width))), (13, .int .i64 k)]) (fun k j2 => σ ++ (.cells [.int .i64 sl, .list .no 2 (ts.map Rng.av), .list .no 6 (rs.map Rd.av)] :: (j ++ j2))) [] (by kernel_rfl) (by simp) (by simp [upd, ins, subF, lookA]) trivial ?_ ?_
      · intro k j2 hk _ ih2
        have hri := idx_tsss hk
        obtain ⟨a1, a2, a3, a4⟩ := hoe _ (List.getElem_mem hk)
        have hbd := span_bd (x := x) a1 a4
        rw [all_take_succ hk] at ih2
        clear hoe hg ih hP
        generalize ((O.take k).all fun l => decide ((spanL (fun t => tg t x) l).hi - (spanL (fun t => tg t x) l).lo ≤ width)) = A at ih2 ⊢
        generalize O[k] = Ok at hri a1 a2 a3 a4 hbd ih2
        generalize hsp : spanL (fun t => tg t x) Ok = sp at hbd ih2
        obtain ⟨plo, phi⟩ := sp
        simp only [tss] at hri
        simp only at hbd ih2
        clear a4
        cases A
        · rw [Bool.false_and] at ih2
          simp -implicitDefEqProofs (maxSteps := 2000000) (disch := omega) only [go_sem, reduceCtorEq, Nat.reduceAdd, Nat.reduceSub, Nat.reduceMul, Nat.reduceLT, Nat.reduceLeDiff, Nat.reduceEqDiff, Nat.reduceBEq, Int.reduceToNat, Int.reduceLT, Int.reduceLE, Int.reduceEq, Int.reduceNeg, Int.reduceAdd, Int.reduceSub, Int.reduceMul, ↓reduceIte, Int.reduceBEq, Int.reduceBNe, hri, tss, a1, a3, hsp, Rng.av]
          exact (ih2 trivial (j2 ++ [.cells [.int .i64 plo, .int .i64 phi]])).castS (by simp) (by simp [upd, ins, subF, lookA])
        · rw [Bool.true_and] at ih2
          by_cases hle : phi - plo ≤ width
          · rw [decide_eq_true hle] at ih2
            simp -implicitDefEqProofs (maxSteps := 2000000) (disch := omega) only [go_sem, reduceCtorEq, Nat.reduceAdd, Nat.reduceSub, Nat.reduceMul, Nat.reduceLT, Nat.reduceLeDiff, Nat.reduceEqDiff, Nat.reduceBEq, Int.reduceToNat, Int.reduceLT, Int.reduceLE, Int.reduceEq, Int.reduceNeg, Int.reduceAdd, Int.reduceSub, Int.reduceMul, ↓reduceIte, Int.reduceBEq, Int.reduceBNe, hri, tss, a1, a3, hsp, Rng.av]
            exact (ih2 trivial (j2 ++ [.cells [.int .i64 plo, .int .i64 phi]])).castS (by simp) (by simp [upd, ins, subF, lookA])
          · rw [decide_eq_false hle] at ih2
            simp -implicitDefEqProofs (maxSteps := 2000000) (disch := omega) only [go_sem, reduceCtorEq, Nat.reduceAdd, Nat.reduceSub, Nat.reduceMul, Nat.reduceLT, Nat.reduceLeDiff, Nat.reduceEqDiff, Nat.reduceBEq, Int.reduceToNat, Int.reduceLT, Int.reduceLE, Int.reduceEq, Int.reduceNeg, Int.reduceAdd, Int.reduceSub, Int.reduceMul, ↓reduceIte, Int.reduceBEq, Int.reduceBNe, hri, tss, a1, a3, hsp, Rng.av]
            exact (ih2 trivial (j2 ++ [.cells [.int .i64 plo, .int .i64 phi]])).castS (by simp) (by simp [upd, ins, subF, lookA])
      · intro j2 _
        rw [List.take_length, hg]
        cases hgv : gateS sl TL x width ((i : Int) + 1)
        · simp -implicitDefEqProofs (maxSteps := 2000000) (disch := omega) only [go_sem, reduceCtorEq, Nat.reduceAdd, Nat.reduceSub, Nat.reduceMul, Nat.reduceLT, Nat.reduceLeDiff, Nat.reduceEqDiff, Nat.reduceBEq, Int.reduceToNat, Int.reduceLT, Int.reduceLE, Int.reduceEq, Int.reduceNeg, Int.reduceAdd, Int.reduceSub, Int.reduceMul, ↓reduceIte, Int.reduceBEq, Int.reduceBNe]
          exact (ih (fun k hk => by
            rcases Nat.lt_or_ge k i with h | h
            · exact hP k h
            · have : k = i := by omega
              subst this; exact hgv) (j ++ j2)).castS rfl (by simp [upd, ins, subF, lookA])
        · have hf := find_range (f := fun k : Nat => gateS sl TL x width (k + 1)) (n := 20) hi hP hgv
          have hV2 : V = ((i : Int) + 1, 0) := by rw [← hV, hf]; rfl
          subst hV2
          clear hV
          simp -implicitDefEqProofs (maxSteps := 2000000) (disch := omega) only [go_sem, reduceCtorEq, Nat.reduceAdd, Nat.reduceSub, Nat.reduceMul, Nat.reduceLT, Nat.reduceLeDiff, Nat.reduceEqDiff, Nat.reduceBEq, Int.reduceToNat, Int.reduceLT, Int.reduceLE, Int.reduceEq, Int.reduceNeg, Int.reduceAdd, Int.reduceSub, Int.reduceMul, ↓reduceIte, Int.reduceBEq, Int.reduceBNe]
    · intro j hP
      have hf := find_none (f := fun k : Nat => gateS sl TL x width (k + 1)) (n := 20) hP
      have hV2 : V = (0, 11) := by rw [← hV, hf]; rfl
      subst hV2
      clear ho hgs hV
      simp -implicitDefEqProofs (maxSteps := 2000000) (disch := omega) only [go_sem, reduceCtorEq, Nat.reduceAdd, Nat.reduceSub, Nat.reduceMul, Nat.reduceLT, Nat.reduceLeDiff, Nat.reduceEqDiff, Nat.reduceBEq, Int.reduceToNat, Int.reduceLT, Int.reduceLE, Int.reduceEq, Int.reduceNeg, Int.reduceAdd, Int.reduceSub, Int.reduceMul, ↓reduceIte, Int.reduceBEq, Int.reduceBNe]
  · have hd : gateL e x width = (0, (askL e (gateW e.tones.length x width)).2) := by unfold gateL; rw [if_neg hk]
    rw [hd]
    rw [askE] at hk ⊢
    obtain ⟨sl, ts, rs⟩ := e
    simp only [Ear.av]
    simp only at h1 h2
    by_cases hc : ck ⟨sl, ts, rs⟩ = 0
    · rw [if_neg (by simp [hc])] at hk ⊢
      by_cases hx : 0 ≤ x ∧ x ≤ (ts.length : Int) - 1
      · have hxd : decide (0 ≤ x ∧ x ≤ (ts.length : Int) - 1) = true := decide_eq_true hx
        by_cases hwd : width < 0
        · have hv : gateW ts.length x width = 1 := by unfold gateW; rw [if_pos hx, if_pos hwd]
          rw [hv, if_pos (by decide)]
          simp -implicitDefEqProofs (maxSteps := 2000000) (disch := omega) only [go_sem, reduceCtorEq, Nat.reduceAdd, Nat.reduceSub, Nat.reduceMul, Nat.reduceLT, Nat.reduceLeDiff, Nat.reduceEqDiff, Nat.reduceBEq, Int.reduceToNat, Int.reduceLT, Int.reduceLE, Int.reduceEq, Int.reduceNeg, Int.reduceAdd, Int.reduceSub, Int.reduceMul, ↓reduceIte, Int.reduceBEq, Int.reduceBNe, hc, hxd]
        · have hv : gateW ts.length x width = 0 := by unfold gateW; rw [if_pos hx, if_neg hwd]
          rw [hv, if_neg (by simp)] at hk ⊢
          have hn : truthsL ⟨sl, ts, rs⟩ = [] := by
            apply Classical.byContradiction
            intro h; rw [if_neg h] at hk; exact hk rfl
          have hR2 : rallL ⟨sl, ts, rs⟩ [] = [] := truthsR_nil.2 hn
          rw [if_pos hn]
          simp -implicitDefEqProofs (maxSteps := 2000000) (disch := omega) only [go_sem, reduceCtorEq, Nat.reduceAdd, Nat.reduceSub, Nat.reduceMul, Nat.reduceLT, Nat.reduceLeDiff, Nat.reduceEqDiff, Nat.reduceBEq, Int.reduceToNat, Int.reduceLT, Int.reduceLE, Int.reduceEq, Int.reduceNeg, Int.reduceAdd, Int.reduceSub, Int.reduceMul, ↓reduceIte, Int.reduceBEq, Int.reduceBNe, hc, hxd, small0, hR2, tss, List.map_nil]
      · have hxd : (if 0 ≤ x ∧ x ≤ (ts.length : Int) - 1 then (0 : Int) else 3) = 3 := if_neg hx
        have hv : gateW ts.length x width = 3 := by unfold gateW; rw [if_neg hx]
        rw [hv, if_pos (by decide)]
        clear hx
        simp -implicitDefEqProofs (maxSteps := 2000000) (disch := omega) only [go_sem, reduceCtorEq, Nat.reduceAdd, Nat.reduceSub, Nat.reduceMul, Nat.reduceLT, Nat.reduceLeDiff, Nat.reduceEqDiff, Nat.reduceBEq, Int.reduceToNat, Int.reduceLT, Int.reduceLE, Int.reduceEq, Int.reduceNeg, Int.reduceAdd, Int.reduceSub, Int.reduceMul, ↓reduceIte, Int.reduceBEq, Int.reduceBNe, hc, hxd]
    · rw [if_pos hc]
      simp -implicitDefEqProofs (maxSteps := 2000000) (disch := omega) only [go_sem, reduceCtorEq, Nat.reduceAdd, Nat.reduceSub, Nat.reduceMul, Nat.reduceLT, Nat.reduceLeDiff, Nat.reduceEqDiff, Nat.reduceBEq, Int.reduceToNat, Int.reduceLT, Int.reduceLE, Int.reduceEq, Int.reduceNeg, Int.reduceAdd, Int.reduceSub, Int.reduceMul, ↓reduceIte, Int.reduceBEq, Int.reduceBNe, hc]
end Go.Proofs
set_option linter.unusedSimpArgs false
set_option linter.unusedVariables false
set_option maxRecDepth 100000
namespace Go.Proofs
open Go Go.Mu

theorem okO_sub {r : Rd} {L l : List (List Int)} (h : okO r L) (h1 : l.length ≤ L.length) (h2 : ∀ t ∈ l, t ∈ L) : okO r l := ⟨h.1, by have := h.2.1; omega, fun T hT => h.2.2 T (h2 T hT)⟩
theorem verd3 {x : Int} {w : Rng} {L : List (List Int)} : (verd (L.filter (qis x w)).length L.length = 3) = (qin x w L = false) := by
  unfold qin; simp
set_option maxHeartbeats 8000000 in
theorem rdecided_p (sl x : Int) (w : Rng) (rl : List Rd) (hsl : 0 ≤ sl ∧ sl ≤ 3) (hx : 0 ≤ x) (hrl : rl.length ≤ 100000) : ∀ (n : Nat) (m : Int) (hm : m = n) (hn : n ≤ 10) (L : List (List Int)), inT x L → L.length ≤ 100000 → (∀ r ∈ rl, okO r L) →
    PureV Try.prog 92 [.int .i64 sl, tss L, .int .i64 x, w.av, .list .no 6 (rl.map Rd.av), .int .i64 m] (.bool (decR x w rl sl n L)) := by
  obtain ⟨wl, wh⟩ := w
  intro n
  induction n with
  | zero =>
    intro m hm _ L hi hL _
    subst hm
    refine PureV.of_ev (E := Try.E 60 Try.ord92 fs117) (Try.envOK 60 Try.ord92 fs117 fs117_ok) (.bool) Try.kp92 Try.func92 rfl (by kernel_rfl) (by simp [Try.E]) (Callable.of Try.func92 (by kernel_rfl) (by kernel_rfl)) (by kernel_rfl) ?_
    intro σ
    cases hq : qin x ⟨wl, wh⟩ L
    · have hv : verd (L.filter (qis x ⟨wl, wh⟩)).length L.length = 3 := verd3.mpr hq
      simp only [tss, Rng.av, decR, hq]
      simp -implicitDefEqProofs (maxSteps := 2000000) (disch := omega) only [go_sem, reduceCtorEq, Nat.reduceAdd, Nat.reduceSub, Nat.reduceMul, Nat.reduceLT, Nat.reduceLeDiff, Nat.reduceEqDiff, Nat.reduceBEq, Int.reduceToNat, Int.reduceLT, Int.reduceLE, Int.reduceEq, Int.reduceNeg, Int.reduceAdd, Int.reduceSub, Int.reduceMul, ↓reduceIte, Int.reduceBEq, Int.reduceBNe, hi, hv]
      refine ARun.once (Try.envOK 60 Try.ord92 fs117 fs117_ok) (by kernel_rfl) ?_
      rcases Nat.eq_zero_or_pos rl.length with h0 | h0
      · simp -implicitDefEqProofs (maxSteps := 2000000) (disch := omega) only [go_sem, reduceCtorEq, Nat.reduceAdd, Nat.reduceSub, Nat.reduceMul, Nat.reduceLT, Nat.reduceLeDiff, Nat.reduceEqDiff, Nat.reduceBEq, Int.reduceToNat, Int.reduceLT, Int.reduceLE, Int.reduceEq, Int.reduceNeg, Int.reduceAdd, Int.reduceSub, Int.reduceMul, ↓reduceIte, Int.reduceBEq, Int.reduceBNe]
      · simp -implicitDefEqProofs (maxSteps := 2000000) (disch := omega) only [go_sem, reduceCtorEq, Nat.reduceAdd, Nat.reduceSub, Nat.reduceMul, Nat.reduceLT, Nat.reduceLeDiff, Nat.reduceEqDiff, Nat.reduceBEq, Int.reduceToNat, Int.reduceLT, Int.reduceLE, Int.reduceEq, Int.reduceNeg, Int.reduceAdd, Int.reduceSub, Int.reduceMul, ↓reduceIte, Int.reduceBEq, Int.reduceBNe]
    · have hv : ¬ verd (L.filter (qis x ⟨wl, wh⟩)).length L.length = 3 := fun h => by rw [verd3, hq] at h; cases h
      simp only [tss, Rng.av, decR, hq]
      simp -implicitDefEqProofs (maxSteps := 2000000) (disch := omega) only [go_sem, reduceCtorEq, Nat.reduceAdd, Nat.reduceSub, Nat.reduceMul, Nat.reduceLT, Nat.reduceLeDiff, Nat.reduceEqDiff, Nat.reduceBEq, Int.reduceToNat, Int.reduceLT, Int.reduceLE, Int.reduceEq, Int.reduceNeg, Int.reduceAdd, Int.reduceSub, Int.reduceMul, ↓reduceIte, Int.reduceBEq, Int.reduceBNe, hi, hv]
  | succ n ih =>
    intro m hm hn L hi hL ho
    refine PureV.of_ev (E := Try.E 60 Try.ord92 fs117) (Try.envOK 60 Try.ord92 fs117 fs117_ok) (.bool) Try.kp92 Try.func92 rfl (by kernel_rfl) (by simp [Try.E]) (Callable.of Try.func92 (by kernel_rfl) (by kernel_rfl)) (by kernel_rfl) ?_
    intro σ
    have hmp : 0 < m ∧ m ≤ 100 := by omega
    have hdr : decR x ⟨wl, wh⟩ rl sl (n + 1) L = (qin x ⟨wl, wh⟩ L || rl.any fun r => (outsR r sl L).all fun l => decR x ⟨wl, wh⟩ rl sl n l) := rfl
    rw [hdr]
    cases hq : qin x ⟨wl, wh⟩ L
    case true =>
      have hv : ¬ verd (L.filter (qis x ⟨wl, wh⟩)).length L.length = 3 := fun h => by rw [verd3, hq] at h; cases h
      simp only [tss, Rng.av, Bool.true_or]
      simp -implicitDefEqProofs (maxSteps := 2000000) (disch := omega) only [go_sem, reduceCtorEq, Nat.reduceAdd, Nat.reduceSub, Nat.reduceMul, Nat.reduceLT, Nat.reduceLeDiff, Nat.reduceEqDiff, Nat.reduceBEq, Int.reduceToNat, Int.reduceLT, Int.reduceLE, Int.reduceEq, Int.reduceNeg, Int.reduceAdd, Int.reduceSub, Int.reduceMul, ↓reduceIte, Int.reduceBEq, Int.reduceBNe, hi, hv]
    have hv : verd (L.filter (qis x ⟨wl, wh⟩)).length L.length = 3 := verd3.mpr hq
    simp only [tss, Rng.av, Bool.false_or]
    simp -implicitDefEqProofs (maxSteps := 2000000) (disch := omega) only [go_sem, reduceCtorEq, Nat.reduceAdd, Nat.reduceSub, Nat.reduceMul, Nat.reduceLT, Nat.reduceLeDiff, Nat.reduceEqDiff, Nat.reduceBEq, Int.reduceToNat, Int.reduceLT, Int.reduceLE, Int.reduceEq, Int.reduceNeg, Int.reduceAdd, Int.reduceSub, Int.reduceMul, ↓reduceIte, Int.reduceBEq, Int.reduceBNe, hi, hv]
    clear hv hq hdr
    obtain ⟨g, hg⟩ : ∃ g : Rd → Bool, g = fun r => (outsR r sl L).all fun l => decR x ⟨wl, wh⟩ rl sl n l := ⟨_, rfl⟩
    rw [← hg]
    refine ARun.forS (Try.envOK 60 Try.ord92 fs117 fs117_ok) rl.length (fun i => (rl.take i).any g = false) (fun i => [(13, .int .i64 i)]) (fun i j => σ ++ (.cells [.int .i64 wl, .int .i64 wh] :: j)) [] (by kernel_rfl) rfl (by simp [upd, ins, subF, lookA]) rfl ?_ ?_
    · intro i j hi2 hP ihl
      have hri : idx (rl.map Rd.av) (i : Int) = some rl[i].av := idx_map hi2
      have hos := ho _ (List.getElem_mem hi2)
      have hol := outsR_len hsl hos
      have hPs := any_take_succ (f := g) hi2
      rw [hP, Bool.false_or] at hPs
      have hgi : g rl[i] = (outsR rl[i] sl L).all fun l => decR x ⟨wl, wh⟩ rl sl n l := by rw [hg]
      have hany : g rl[i] = true → rl.any g = true := fun h => List.any_eq_true.2 ⟨_, List.getElem_mem hi2, h⟩
      have hoe : ∀ l ∈ outsR rl[i] sl L, inT x l ∧ l.length ≤ 100000 ∧ ∀ r ∈ rl, okO r l := fun l hl => by
        obtain ⟨a1, a2, a3⟩ := outs_elem hl
        exact ⟨fun t ht => hi t (a3 t ht), by omega, fun r hr => okO_sub (ho r hr) a2 a3⟩
      generalize g rl[i] = gi at hPs hgi hany
      generalize rl[i] = ri at hri hos hol hgi hoe
      obtain ⟨k0, k1, k2, k3, ⟨k4, k5⟩⟩ := ri
      simp only [Rd.av] at hri
      simp -implicitDefEqProofs (maxSteps := 2000000) (disch := omega) only [go_sem, reduceCtorEq, Nat.reduceAdd, Nat.reduceSub, Nat.reduceMul, Nat.reduceLT, Nat.reduceLeDiff, Nat.reduceEqDiff, Nat.reduceBEq, Int.reduceToNat, Int.reduceLT, Int.reduceLE, Int.reduceEq, Int.reduceNeg, Int.reduceAdd, Int.reduceSub, Int.reduceMul, ↓reduceIte, Int.reduceBEq, Int.reduceBNe, hri, hos, hsl, tsss]
      generalize outsR ⟨k0, k1, k2, k3, ⟨k4, k5⟩⟩ sl L = O at hol hgi hoe ⊢
      refine ARun.forS (Try.envOK 60 Try.ord92 fs117 fs117_ok) O.length (fun _ => True) (fun k => [(15, .bool ((O.take k).all fun l => decR x ⟨wl, wh⟩ rl sl n l)), (16, .int .i64 k)]) (fun k j2 => σ ++ (.cells [.int .i64 wl, .int .i64 wh] :: j)) [] (by kernel_rfl) rfl (by simp [upd, ins, subF, lookA]) trivial ?_ ?_
      · intro k j2 hk _ ih2
        have hrk := idx_tsss hk
        obtain ⟨a1, a2, a3⟩ := hoe _ (List.getElem_mem hk)
        have ihk := ih (m - 1) (by omega) (by omega) O[k] a1 a2 a3
        rw [all_take_succ hk] at ih2
        clear hoe hgi ihl hP hPs hany hos
        generalize ((O.take k).all fun l => decR x ⟨wl, wh⟩ rl sl n l) = A at ih2 ⊢
        generalize decR x ⟨wl, wh⟩ rl sl n O[k] = B at ih2 ihk
        generalize O[k] = Ok at hrk ihk
        simp only [tss, Rng.av] at hrk ihk
        cases A
        · rw [Bool.false_and] at ih2
          simp -implicitDefEqProofs (maxSteps := 2000000) (disch := omega) only [go_sem, reduceCtorEq, Nat.reduceAdd, Nat.reduceSub, Nat.reduceMul, Nat.reduceLT, Nat.reduceLeDiff, Nat.reduceEqDiff, Nat.reduceBEq, Int.reduceToNat, Int.reduceLT, Int.reduceLE, Int.reduceEq, Int.reduceNeg, Int.reduceAdd, Int.reduceSub, Int.reduceMul, ↓reduceIte, Int.reduceBEq, Int.reduceBNe, hrk]
          exact (ih2 trivial j2).castS rfl (by simp [upd, ins, subF, lookA])
        · rw [Bool.true_and] at ih2
          simp -implicitDefEqProofs (maxSteps := 2000000) (disch := omega) only [go_sem, reduceCtorEq, Nat.reduceAdd, Nat.reduceSub, Nat.reduceMul, Nat.reduceLT, Nat.reduceLeDiff, Nat.reduceEqDiff, Nat.reduceBEq, Int.reduceToNat, Int.reduceLT, Int.reduceLE, Int.reduceEq, Int.reduceNeg, Int.reduceAdd, Int.reduceSub, Int.reduceMul, ↓reduceIte, Int.reduceBEq, Int.reduceBNe, hrk]
          refine ihk _ _ ?_
          cases B
          · simp -implicitDefEqProofs (maxSteps := 2000000) (disch := omega) only [go_sem, reduceCtorEq, Nat.reduceAdd, Nat.reduceSub, Nat.reduceMul, Nat.reduceLT, Nat.reduceLeDiff, Nat.reduceEqDiff, Nat.reduceBEq, Int.reduceToNat, Int.reduceLT, Int.reduceLE, Int.reduceEq, Int.reduceNeg, Int.reduceAdd, Int.reduceSub, Int.reduceMul, ↓reduceIte, Int.reduceBEq, Int.reduceBNe, hrk]
            exact (ih2 trivial j2).castS rfl (by simp [upd, ins, subF, lookA])
          · simp -implicitDefEqProofs (maxSteps := 2000000) (disch := omega) only [go_sem, reduceCtorEq, Nat.reduceAdd, Nat.reduceSub, Nat.reduceMul, Nat.reduceLT, Nat.reduceLeDiff, Nat.reduceEqDiff, Nat.reduceBEq, Int.reduceToNat, Int.reduceLT, Int.reduceLE, Int.reduceEq, Int.reduceNeg, Int.reduceAdd, Int.reduceSub, Int.reduceMul, ↓reduceIte, Int.reduceBEq, Int.reduceBNe, hrk]
            exact (ih2 trivial j2).castS rfl (by simp [upd, ins, subF, lookA])
      · intro j2 _
        rw [List.take_length, ← hgi]
        cases gi
        · simp -implicitDefEqProofs (maxSteps := 2000000) (disch := omega) only [go_sem, reduceCtorEq, Nat.reduceAdd, Nat.reduceSub, Nat.reduceMul, Nat.reduceLT, Nat.reduceLeDiff, Nat.reduceEqDiff, Nat.reduceBEq, Int.reduceToNat, Int.reduceLT, Int.reduceLE, Int.reduceEq, Int.reduceNeg, Int.reduceAdd, Int.reduceSub, Int.reduceMul, ↓reduceIte, Int.reduceBEq, Int.reduceBNe]
          exact (ihl hPs j).castS rfl (by simp [upd, ins, subF, lookA])
        · have := hany rfl
          rw [this]
          simp -implicitDefEqProofs (maxSteps := 2000000) (disch := omega) only [go_sem, reduceCtorEq, Nat.reduceAdd, Nat.reduceSub, Nat.reduceMul, Nat.reduceLT, Nat.reduceLeDiff, Nat.reduceEqDiff, Nat.reduceBEq, Int.reduceToNat, Int.reduceLT, Int.reduceLE, Int.reduceEq, Int.reduceNeg, Int.reduceAdd, Int.reduceSub, Int.reduceMul, ↓reduceIte, Int.reduceBEq, Int.reduceBNe]
    · intro j hP
      rw [List.take_length] at hP
      rw [hP]
      simp -implicitDefEqProofs (maxSteps := 2000000) (disch := omega) only [go_sem, reduceCtorEq, Nat.reduceAdd, Nat.reduceSub, Nat.reduceMul, Nat.reduceLT, Nat.reduceLeDiff, Nat.reduceEqDiff, Nat.reduceBEq, Int.reduceToNat, Int.reduceLT, Int.reduceLE, Int.reduceEq, Int.reduceNeg, Int.reduceAdd, Int.reduceSub, Int.reduceMul, ↓reduceIte, Int.reduceBEq, Int.reduceBNe]
end Go.Proofs
set_option linter.unusedSimpArgs false
set_option linter.unusedVariables false
set_option maxRecDepth 100000
namespace Go.Proofs
open Go Go.Mu

set_option maxHeartbeats 4000000 in
theorem rNeeds_p (e : Ear) (x : Int) (w : Rng) (gs : List Int) (h1 : e.tones.length ≤ 4294967296) (h2 : e.rds.length ≤ 4294967296) (h3 : gs.length ≤ 4294967296) :
    PureV Try.prog 26 [e.av, .int .i64 x, w.av, .list .no 1 (gs.map (.int .i64))] (.tup [.int .i64 (needsL e x w gs).1, .int .i64 (needsL e x w gs).2]) := by
  refine PureV.of_ev (E := Try.E 48 Try.ord26 fs117) (Try.envOK 48 Try.ord26 fs117 fs117_ok) (ii_plain) Try.kp26 Try.func26 rfl (by kernel_rfl) (by simp [Try.E]) (Callable.of Try.func26 (by kernel_rfl) (by kernel_rfl)) (by kernel_rfl) ?_
  intro σ
  by_cases hk : (askL e (needW e.tones.length x w gs)).2 = 0
  · obtain ⟨hc, hw, hn, hke⟩ := askL_ok hk
    have he := okE_of_ck hc
    have hlen := he.len
    have hw1 : ckWant e.tones.length x w = 0 := by unfold needW at hw; split at hw <;> simp_all
    have hw2 : ckGates gs = 0 := by unfold needW at hw; rw [if_pos hw1] at hw; exact hw
    have hx := ckWant_ok hw1
    obtain ⟨g1, g2, g3⟩ := ckGates_ok hw2
    have hR : rallL e [] = truthsR e := rfl
    have hR0 : truthsR e ≠ [] := fun h => hn (truthsR_nil.1 h)
    have hsl := he.sl
    have hbt : (truthsR e).length ≤ 100000 := by have := truthsR_len he; omega
    have hck := byGatesL_ck (m := e.tones.length) hlen g3
    have hll := byGatesL_len (m := e.tones.length) (gs := gs) hlen (by omega)
    have ho : ∀ r ∈ byGatesL e.tones.length gs, okO r (truthsR e) := fun r hr => okO_truths hc (hck r hr)
    have hinT : inT x (truthsR e) := fun t ht => by rw [(truthsR_ok he t ht).1]; omega
    have hsm : ∀ t ∈ truthsL e, small t := fun t ht => (truthsL_ok he t ht).2
    have q0 : decR x w (byGatesL e.tones.length gs) e.slack 0 (truthsR e) = qin x w (truthsL e) := qin_take hx.1 (by omega)
    have q1 : decR x w (byGatesL e.tones.length gs) e.slack 1 (truthsR e) = oneL x w (byGatesL e.tones.length gs) e.slack (truthsL e) := decR_one hsl.1 hlen ⟨hx.1, by omega⟩ hck hsm
    have q2 : decR x w (byGatesL e.tones.length gs) e.slack 2 (truthsR e) = (qin x w (truthsL e) || twoL x w (byGatesL e.tones.length gs) e.slack (truthsL e)) := decR_two hsl.1 hlen ⟨hx.1, by omega⟩ hck hsm
    obtain ⟨D, hD⟩ : ∃ D : Nat → Bool, D = fun i => decR x w (byGatesL e.tones.length gs) e.slack i (truthsR e) := ⟨_, rfl⟩
    have hDi : ∀ i, decR x w (byGatesL e.tones.length gs) e.slack i (truthsR e) = D i := fun i => by rw [hD]
    rw [hDi] at q0 q1 q2
    obtain ⟨V, hV⟩ : ∃ V, needsL e x w gs = V := ⟨_, rfl⟩
    have hV2 : V = if D 0 then (0, 0) else if D 1 then (1, 0) else if D 2 then (2, 0) else (0, 11) := by
      rw [← hV]; unfold needsL
      rw [if_pos hk, q0, q1, q2]
      cases qin x w (truthsL e) <;> simp
    rw [hV]
    obtain ⟨s, ts, rs⟩ := e
    obtain ⟨wl, wh⟩ := w
    dsimp only at *
    have hdp := fun (n : Nat) (hn : n ≤ 10) => rdecided_p s x ⟨wl, wh⟩ (byGatesL ts.length gs) hsl hx.1 (by omega) n n rfl hn (truthsR ⟨s, ts, rs⟩) hinT hbt ho
    simp only [hDi] at hdp
    clear hk hke hn he hV q0 q1 q2 hD hDi ho hck hsm hinT hw g1 g3
    generalize hBG : byGatesL ts.length gs = BG at hll hdp
    generalize truthsR ⟨s, ts, rs⟩ = L at hR hR0 hbt hdp
    have hL0 : ¬ L.length = 0 := fun h => hR0 (List.length_eq_zero_iff.1 h)
    simp only [Ear.av, Rng.av, tss] at hdp ⊢
    simp -implicitDefEqProofs (maxSteps := 2000000) (disch := omega) only [go_sem, reduceCtorEq, Nat.reduceAdd, Nat.reduceSub, Nat.reduceMul, Nat.reduceLT, Nat.reduceLeDiff, Nat.reduceEqDiff, Nat.reduceBEq, Int.reduceToNat, Int.reduceLT, Int.reduceLE, Int.reduceEq, Int.reduceNeg, Int.reduceAdd, Int.reduceSub, Int.reduceMul, ↓reduceIte, Int.reduceBEq, Int.reduceBNe, hc, hw1, hw2, small0, hR, tss]
    refine ARun.forS (Try.envOK 48 Try.ord26 fs117 fs117_ok) 3 (fun i => ∀ k, k < i → D k = false) (fun i => [(13, .int .i64 i)]) (fun i j => σ ++ (.cells [.int .i64 s, .list .no 2 (ts.map Rng.av), .list .no 6 (rs.map Rd.av)] :: .cells [.int .i64 wl, .int .i64 wh] :: j)) [] (by kernel_rfl) rfl (by simp [upd, ins, subF, lookA]) (fun k hk => by omega) ?_ ?_
    · intro i j hi hP ih
      have hdi := hdp i (by omega)
      simp -implicitDefEqProofs (maxSteps := 2000000) (disch := omega) only [go_sem, reduceCtorEq, Nat.reduceAdd, Nat.reduceSub, Nat.reduceMul, Nat.reduceLT, Nat.reduceLeDiff, Nat.reduceEqDiff, Nat.reduceBEq, Int.reduceToNat, Int.reduceLT, Int.reduceLE, Int.reduceEq, Int.reduceNeg, Int.reduceAdd, Int.reduceSub, Int.reduceMul, ↓reduceIte, Int.reduceBEq, Int.reduceBNe, tss, hBG]
      refine hdi _ _ ?_
      cases hDv : D i
      · simp -implicitDefEqProofs (maxSteps := 2000000) (disch := omega) only [go_sem, reduceCtorEq, Nat.reduceAdd, Nat.reduceSub, Nat.reduceMul, Nat.reduceLT, Nat.reduceLeDiff, Nat.reduceEqDiff, Nat.reduceBEq, Int.reduceToNat, Int.reduceLT, Int.reduceLE, Int.reduceEq, Int.reduceNeg, Int.reduceAdd, Int.reduceSub, Int.reduceMul, ↓reduceIte, Int.reduceBEq, Int.reduceBNe]
        exact (ih (fun k hk => by
          rcases Nat.lt_or_ge k i with h | h
          · exact hP k h
          · have : k = i := by omega
            subst this; exact hDv) j).castS rfl (by simp [upd, ins, subF, lookA])
      · have hV3 : V = ((i : Int), 0) := by
          rw [hV2]
          rcases (by omega : i = 0 ∨ i = 1 ∨ i = 2) with rfl | rfl | rfl
          · simp [hDv]
          · simp [hP 0 (by omega), hDv]
          · simp [hP 0 (by omega), hP 1 (by omega), hDv]
        subst hV3
        clear hV2
        simp -implicitDefEqProofs (maxSteps := 2000000) (disch := omega) only [go_sem, reduceCtorEq, Nat.reduceAdd, Nat.reduceSub, Nat.reduceMul, Nat.reduceLT, Nat.reduceLeDiff, Nat.reduceEqDiff, Nat.reduceBEq, Int.reduceToNat, Int.reduceLT, Int.reduceLE, Int.reduceEq, Int.reduceNeg, Int.reduceAdd, Int.reduceSub, Int.reduceMul, ↓reduceIte, Int.reduceBEq, Int.reduceBNe]
    · intro j hP
      have hV3 : V = (0, 11) := by rw [hV2]; simp [hP 0 (by omega), hP 1 (by omega), hP 2 (by omega)]
      subst hV3
      clear hV2 hdp
      simp -implicitDefEqProofs (maxSteps := 2000000) (disch := omega) only [go_sem, reduceCtorEq, Nat.reduceAdd, Nat.reduceSub, Nat.reduceMul, Nat.reduceLT, Nat.reduceLeDiff, Nat.reduceEqDiff, Nat.reduceBEq, Int.reduceToNat, Int.reduceLT, Int.reduceLE, Int.reduceEq, Int.reduceNeg, Int.reduceAdd, Int.reduceSub, Int.reduceMul, ↓reduceIte, Int.reduceBEq, Int.reduceBNe]
  · have hd : needsL e x w gs = (0, (askL e (needW e.tones.length x w gs)).2) := by unfold needsL; rw [if_neg hk]
    rw [hd]
    rw [askE] at hk ⊢
    obtain ⟨s, ts, rs⟩ := e
    obtain ⟨wl, wh⟩ := w
    simp only [Ear.av, Rng.av]
    simp only at h1 h2
    by_cases hc : ck ⟨s, ts, rs⟩ = 0
    · rw [if_neg (by simp [hc])] at hk ⊢
      by_cases hw1 : ckWant ts.length x ⟨wl, wh⟩ = 0
      · by_cases hw2 : ckGates gs = 0
        · have hv : needW ts.length x ⟨wl, wh⟩ gs = 0 := by unfold needW; rw [if_pos hw1]; exact hw2
          rw [if_neg (by simp [hv])] at hk ⊢
          have hn : truthsL ⟨s, ts, rs⟩ = [] := by
            apply Classical.byContradiction
            intro h; rw [if_neg h] at hk; exact hk rfl
          have hR2 : rallL ⟨s, ts, rs⟩ [] = [] := truthsR_nil.2 hn
          rw [if_pos hn]
          simp -implicitDefEqProofs (maxSteps := 2000000) (disch := omega) only [go_sem, reduceCtorEq, Nat.reduceAdd, Nat.reduceSub, Nat.reduceMul, Nat.reduceLT, Nat.reduceLeDiff, Nat.reduceEqDiff, Nat.reduceBEq, Int.reduceToNat, Int.reduceLT, Int.reduceLE, Int.reduceEq, Int.reduceNeg, Int.reduceAdd, Int.reduceSub, Int.reduceMul, ↓reduceIte, Int.reduceBEq, Int.reduceBNe, hc, hw1, hw2, small0, hR2, tss, List.map_nil]
        · have hv : needW ts.length x ⟨wl, wh⟩ gs = ckGates gs := by unfold needW; rw [if_pos hw1]
          rw [hv, if_pos hw2]
          generalize hq : ckGates gs = q at hw2 ⊢
          simp -implicitDefEqProofs (maxSteps := 2000000) (disch := omega) only [go_sem, reduceCtorEq, Nat.reduceAdd, Nat.reduceSub, Nat.reduceMul, Nat.reduceLT, Nat.reduceLeDiff, Nat.reduceEqDiff, Nat.reduceBEq, Int.reduceToNat, Int.reduceLT, Int.reduceLE, Int.reduceEq, Int.reduceNeg, Int.reduceAdd, Int.reduceSub, Int.reduceMul, ↓reduceIte, Int.reduceBEq, Int.reduceBNe, hc, hw1, hq, hw2]
      · have hv : needW ts.length x ⟨wl, wh⟩ gs = ckWant ts.length x ⟨wl, wh⟩ := by unfold needW; rw [if_neg hw1]
        rw [hv, if_pos hw1]
        generalize hq : ckWant ts.length x ⟨wl, wh⟩ = q at hw1 ⊢
        simp -implicitDefEqProofs (maxSteps := 2000000) (disch := omega) only [go_sem, reduceCtorEq, Nat.reduceAdd, Nat.reduceSub, Nat.reduceMul, Nat.reduceLT, Nat.reduceLeDiff, Nat.reduceEqDiff, Nat.reduceBEq, Int.reduceToNat, Int.reduceLT, Int.reduceLE, Int.reduceEq, Int.reduceNeg, Int.reduceAdd, Int.reduceSub, Int.reduceMul, ↓reduceIte, Int.reduceBEq, Int.reduceBNe, hc, hq, hw1]
    · rw [if_pos hc]
      simp -implicitDefEqProofs (maxSteps := 2000000) (disch := omega) only [go_sem, reduceCtorEq, Nat.reduceAdd, Nat.reduceSub, Nat.reduceMul, Nat.reduceLT, Nat.reduceLeDiff, Nat.reduceEqDiff, Nat.reduceBEq, Int.reduceToNat, Int.reduceLT, Int.reduceLE, Int.reduceEq, Int.reduceNeg, Int.reduceAdd, Int.reduceSub, Int.reduceMul, ↓reduceIte, Int.reduceBEq, Int.reduceBNe, hc]
def rNeeds_s := spec4 tEar tI tRng tIs fun e x w gs => if e.tones.length ≤ 4294967296 ∧ e.rds.length ≤ 4294967296 ∧ gs.length ≤ 4294967296 then some (.tup [.int .i64 (needsL e x w gs).1, .int .i64 (needsL e x w gs).2]) else none
theorem rNeeds_ok : ∀ xs v, rNeeds_s xs = some v → PureV Try.prog 26 xs v :=
  spec4_ok fun e x w gs v h => by have h := someIf h; rw [← h.2]; exact rNeeds_p e x w gs h.1.1 h.1.2.1 h.1.2.2
def rGate_s := spec3 tEar tI tI fun e a b => if e.tones.length ≤ 4294967296 ∧ e.rds.length ≤ 4294967296 then some (.tup [.int .i64 (gateL e a b).1, .int .i64 (gateL e a b).2]) else none
theorem rGate_ok : ∀ xs v, rGate_s xs = some v → PureV Try.prog 24 xs v :=
  spec3_ok fun e a b v h => by have h := someIf h; rw [← h.2]; exact rGate_p e a b h.1.1 h.1.2
end Go.Proofs
