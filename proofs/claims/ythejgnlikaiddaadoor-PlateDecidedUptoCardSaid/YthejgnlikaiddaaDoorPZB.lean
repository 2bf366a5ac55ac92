/- Texts of a proof: lemmas. -/
import Derived.Test.YthejgnlikaiddaaDoorPZA
import Derived.Test.YthejgnlikaiddaaDoorPY
set_option linter.unusedSimpArgs false
set_option linter.unusedVariables false
set_option maxRecDepth 100000
namespace Go.Proofs
open Go Go.Mu

def pYears_s := spw2 tyCat.w tyOld.w fun c o => if okCat c ∧ okOld o then some (.tup [.agg [.int .i64 (yearsM c o).1.lo, .int .i64 (yearsM c o).1.hi], .int .i64 (yearsM c o).2]) else none
theorem pYears_ok : ∀ xs v, pYears_s xs = some v → PureV Tryd.prog 27 xs v :=
  spw2_ok fun c o v h => by have h := someIf h; rw [← h.2]; exact pYears_p c o h.1.1 h.1.2
def pNumbers_s := spw2 tyCat.w tyOld.w fun c o => if okCat c ∧ okOld o then some (.tup [.agg [.int .i64 (numbersM c o).1.lo, .int .i64 (numbersM c o).1.hi], .int .i64 (numbersM c o).2]) else none
theorem pNumbers_ok : ∀ xs v, pNumbers_s xs = some v → PureV Tryd.prog 28 xs v :=
  spw2_ok fun c o v h => by have h := someIf h; rw [← h.2]; exact pNumbers_p c o h.1.1 h.1.2
def pAltered_s := spw2 tyCat.w tyOld.w fun c o => if okCat c ∧ okOld o then some (.tup [isv (alteredM c o).1, .int .i64 (alteredM c o).2]) else none
theorem pAltered_ok : ∀ xs v, pAltered_s xs = some v → PureV Tryd.prog 29 xs v :=
  spw2_ok fun c o v h => by have h := someIf h; rw [← h.2]; exact pAltered_p c o h.1.1 h.1.2
def rightB (v : Int) (b : Bool) : Bool := decide (v = 3) || (decide (v = 1) && b) || (decide (v = 2) && !b)
theorem right_p (v : Int) (b : Bool) : PureV Tryd.prog 37 [.int .i64 v, .bool b] (.bool (rightB v b)) := by
  refine PureV.of_ev (E := Tryd.E 22 (fun _ => ([], [])) fs0) (Tryd.envOK 22 (fun _ => ([], [])) fs0 fs0_ok) (.bool) Tryd.kp37 Tryd.func37 rfl (by kernel_rfl) (by simp [Tryd.E]) (Callable.of Tryd.func37 (by kernel_rfl) (by kernel_rfl)) (by kernel_rfl) ?_
  intro σ
  unfold rightB
  rcases (by omega : v = 3 ∨ v = 1 ∨ v = 2 ∨ (v ≠ 3 ∧ v ≠ 1 ∧ v ≠ 2)) with h | h | h | ⟨h1, h2, h3⟩
  · cases b <;> (simp -implicitDefEqProofs (maxSteps := 2000000) (disch := omega) only [go_sem, reduceCtorEq, Nat.reduceAdd, Nat.reduceSub, Nat.reduceMul, Nat.reduceLT, Nat.reduceLeDiff, Nat.reduceEqDiff, Nat.reduceBEq, Int.reduceToNat, Int.reduceLT, Int.reduceLE, Int.reduceEq, Int.reduceNeg, Int.reduceAdd, Int.reduceSub, Int.reduceMul, ↓reduceIte, Int.reduceBEq, Int.reduceBNe]; try simp [h])
  · have h1 : ¬ v = 3 := by omega
    cases b <;> (simp -implicitDefEqProofs (maxSteps := 2000000) (disch := omega) only [go_sem, reduceCtorEq, Nat.reduceAdd, Nat.reduceSub, Nat.reduceMul, Nat.reduceLT, Nat.reduceLeDiff, Nat.reduceEqDiff, Nat.reduceBEq, Int.reduceToNat, Int.reduceLT, Int.reduceLE, Int.reduceEq, Int.reduceNeg, Int.reduceAdd, Int.reduceSub, Int.reduceMul, ↓reduceIte, Int.reduceBEq, Int.reduceBNe]; try simp [h])
  · have h1 : ¬ v = 3 := by omega
    have h2 : ¬ v = 1 := by omega
    cases b <;> (simp -implicitDefEqProofs (maxSteps := 2000000) (disch := omega) only [go_sem, reduceCtorEq, Nat.reduceAdd, Nat.reduceSub, Nat.reduceMul, Nat.reduceLT, Nat.reduceLeDiff, Nat.reduceEqDiff, Nat.reduceBEq, Int.reduceToNat, Int.reduceLT, Int.reduceLE, Int.reduceEq, Int.reduceNeg, Int.reduceAdd, Int.reduceSub, Int.reduceMul, ↓reduceIte, Int.reduceBEq, Int.reduceBNe]; try simp [h])
  · cases b <;> (simp -implicitDefEqProofs (maxSteps := 2000000) (disch := omega) only [go_sem, reduceCtorEq, Nat.reduceAdd, Nat.reduceSub, Nat.reduceMul, Nat.reduceLT, Nat.reduceLeDiff, Nat.reduceEqDiff, Nat.reduceBEq, Int.reduceToNat, Int.reduceLT, Int.reduceLE, Int.reduceEq, Int.reduceNeg, Int.reduceAdd, Int.reduceSub, Int.reduceMul, ↓reduceIte, Int.reduceBEq, Int.reduceBNe]; try simp [h1, h2, h3])
def decBool : AV → Option Bool
  | .bool b => some b
  | _ => none
def right_s : List AV → Option AV
  | [.int .i64 v, .bool b] => some (.bool (rightB v b))
  | _ => none
theorem right_ok : ∀ xs v, right_s xs = some v → PureV Tryd.prog 37 xs v := by
  intro xs v h
  unfold right_s at h
  split at h
  · simp only [Option.some.injEq] at h; rw [← h]; exact right_p _ _
  · cases h
def fs21 (f : FuncId) (xs : List AV) : Option AV := if f = 27 then pYears_s xs else if f = 28 then pNumbers_s xs else if f = 29 then pAltered_s xs else if f = 37 then right_s xs else if f = 36 then inR_s xs else if f = 32 then lplace_s xs else if f = 16 then copyOld_s xs else fs20 f xs
theorem fs21_ok : ∀ f xs v, fs21 f xs = some v → PureV Tryd.prog f xs v := by
  intro f xs v h
  unfold fs21 at h
  split at h
  · rename_i e; subst e; exact pYears_ok _ _ h
  split at h
  · rename_i e; subst e; exact pNumbers_ok _ _ h
  split at h
  · rename_i e; subst e; exact pAltered_ok _ _ h
  split at h
  · rename_i e; subst e; exact right_ok _ _ h
  split at h
  · rename_i e; subst e; exact inR_ok _ _ h
  split at h
  · rename_i e; subst e; exact lplace_ok _ _ h
  split at h
  · rename_i e; subst e; exact copyOld_ok _ _ h
  exact fs20_ok _ _ _ h
attribute [go_sem] fs21 pYears_s pNumbers_s pAltered_s right_s inR_s lplace_s copyOld_s
-- plain
theorem head_le {l : List Int} (h : l.Pairwise (· < ·)) {x : Int} (hx : x ∈ l) : tg l 0 ≤ x ∧ x ≤ tg l ((l.length : Int) - 1) := by
  obtain ⟨i, hi, rfl⟩ := List.mem_iff_getElem.1 hx
  have hp := List.pairwise_iff_getElem.1 h
  have e0 : tg l 0 = l[0] := tgE (i := 0) (by omega)
  have e1 : tg l ((l.length : Int) - 1) = l[l.length - 1] := by
    rw [show ((l.length : Int) - 1) = ((l.length - 1 : Nat) : Int) by omega, tgE (by omega)]
  rw [e0, e1]
  refine ⟨?_, ?_⟩
  · by_cases e : i = 0
    · subst e; exact Int.le_refl _
    · exact Int.le_of_lt (hp 0 i (by omega) hi (by omega))
  · by_cases e : i = l.length - 1
    · subst e; exact Int.le_refl _
    · exact Int.le_of_lt (hp i (l.length - 1) hi (by omega) (by omega))
theorem numS_fold : ∀ {l : List Int} {x : Rng}, (l.foldl numS x).lo ≤ x.lo ∧ x.hi ≤ (l.foldl numS x).hi ∧ ∀ n ∈ l, (l.foldl numS x).lo ≤ n ∧ n ≤ (l.foldl numS x).hi
  | [], x => ⟨Int.le_refl _, Int.le_refl _, by simp⟩
  | y :: l, x => by
    rw [List.foldl_cons]
    obtain ⟨h1, h2, h3⟩ := numS_fold (l := l) (x := numS x y)
    have e : (numS x y).lo ≤ x.lo ∧ (numS x y).lo ≤ y ∧ x.hi ≤ (numS x y).hi ∧ y ≤ (numS x y).hi := by unfold numS; simp only; split <;> split <;> omega
    refine ⟨by omega, by omega, fun n hn => ?_⟩
    rcases List.mem_cons.1 hn with rfl | hn
    · omega
    · exact h3 n hn
theorem numF_fold {pl : ByteArray} : ∀ {l : List Made} {x : Rng}, (l.foldl (numF pl) x).lo ≤ x.lo ∧ x.hi ≤ (l.foldl (numF pl) x).hi ∧ ∀ m ∈ l, ∀ n ∈ numsP m.nums pl, (l.foldl (numF pl) x).lo ≤ n ∧ n ≤ (l.foldl (numF pl) x).hi
  | [], x => ⟨Int.le_refl _, Int.le_refl _, by simp⟩
  | y :: l, x => by
    rw [List.foldl_cons]
    obtain ⟨h1, h2, h3⟩ := numF_fold (pl := pl) (l := l) (x := numF pl x y)
    obtain ⟨g1, g2, g3⟩ := numS_fold (l := numsP y.nums pl) (x := x)
    have e : (numsP y.nums pl).foldl numS x = numF pl x y := rfl
    rw [e] at g1 g2 g3
    refine ⟨by omega, by omega, fun m hm n hn => ?_⟩
    rcases List.mem_cons.1 hm with rfl | hm
    · have := g3 n hn; omega
    · exact h3 m hm n hn
theorem numsP_mem {x : Rng} {P : ByteArray} {n : Int} : n ∈ numsP x P ↔ x.lo ≤ n ∧ n ≤ x.hi ∧ readsP P n = true := by
  unfold numsP
  rw [List.mem_filter, List.mem_map]
  constructor
  · rintro ⟨⟨k, hk, rfl⟩, h⟩
    rw [List.mem_range] at hk
    exact ⟨by omega, by omega, h⟩
  · rintro ⟨h1, h2, h3⟩
    exact ⟨⟨(n - x.lo).toNat, List.mem_range.2 (by omega), by omega⟩, h3⟩
theorem fitsP_iff {x : Rng} {P : ByteArray} : fitsP x P = true ↔ ∃ n, n ∈ numsP x P := by
  unfold fitsP
  cases h : numsP x P with
  | nil => simp
  | cons a l => simp
theorem known_val {c : Cat} {o : Old} (hv : ckOld c o = 0) (hne : truthsM c o ≠ []) : knownM c o [] = (truthsM c o, 0) := by
  unfold knownM; rw [if_neg (by simp [hv]), if_neg (by simp [firstE]), if_neg hne]
theorem knownF_val {c : Cat} {o : Old} {f : Int} (hv : ckOld c o = 0) (hne : truthsM c o ≠ []) (hf : 0 ≤ f ∧ f ≤ c.features - 1) : knownFM c o f = (valuesZ (fun m : Made => tg m.look f) (truthsM c o), 0) := by
  have hz : featE c f = 0 := by unfold featE; rw [if_pos hf]
  have hk : knownM c o [featE c f] = (truthsM c o, 0) := by
    unfold knownM; rw [if_neg (by simp [hv]), if_neg (by simp [firstE, hz]), if_neg hne]
  unfold knownFM; rw [hk, if_pos rfl]
theorem altN_all {s : Int} {f : Nat} {L : List Made} (h : altN s f L = L.length) : ∀ m ∈ L, 0 < s ∧ s ≠ tg m.look (f : Int) := fun m hm => by
  unfold altN at h
  have := List.length_filter_eq_length_iff.1 h m hm
  simpa using this
theorem altN_none {s : Int} {f : Nat} {L : List Made} (h : altN s f L = 0) : ∀ m ∈ L, ¬ (0 < s ∧ s ≠ tg m.look (f : Int)) := fun m hm => by
  unfold altN at h
  have := List.filter_eq_nil_iff.1 (List.length_eq_zero_iff.1 h) m hm
  simpa using this
end Go.Proofs
