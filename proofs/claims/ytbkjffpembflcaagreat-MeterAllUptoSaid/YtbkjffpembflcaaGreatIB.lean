/- Texts of a proof: lemmas. -/
import Derived.Test.YtbkjffpembflcaaGreatRl
import Derived.Shelf.Sort.Plain
import Derived.Test.YtbkjffpembflcaaGreatA7
import Derived.Test.YtbkjffpembflcaaGreatMV
set_option maxRecDepth 100000
namespace Go.Proofs
open Go Go.Mu Go.Shelf

def Tryz.rho189 : Ren := ⟨fun x => if x = 125 then 95 else if x = 128 then 117 else if x = 129 then 118 else if x = 189 then 58 else if x = 215 then 131 else if x = 216 then 114 else if x = 257 then 94 else if x = 294 then 108 else if x = 295 then 109 else if x = 296 then 110 else if x = 297 then 111 else if x = 298 then 112 else if x = 299 then 113 else if x = 300 then 115 else if x = 301 then 116 else if x = 328 then 126 else if x = 329 then 127 else if x = 330 then 128 else if x = 331 then 129 else if x = 332 then 130 else if x = 343 then 132 else x, fun x => if x = 0 then 0 else if x = 3 then 3 else if x = 4 then 4 else if x = 5 then 5 else if x = 9 then 9 else if x = 28 then 30 else if x = 46 then 77 else if x = 51 then 155 else if x = 53 then 74 else if x = 131 then 152 else if x = 182 then 147 else if x = 183 then 148 else if x = 218 then 161 else if x = 222 then 164 else if x = 228 then 167 else if x = 229 then 168 else x, fun x => x⟩
theorem Tryz.lays189 : Lays.n189 Tryz.prog Tryz.rho189 where
  mixed := by kernel_rfl
  f125 := by kernel_rfl
  f128 := by kernel_rfl
  f129 := by kernel_rfl
  f189 := by kernel_rfl
  f215 := by kernel_rfl
  f216 := by kernel_rfl
  f257 := by kernel_rfl
  f294 := by kernel_rfl
  f295 := by kernel_rfl
  f296 := by kernel_rfl
  f297 := by kernel_rfl
  f298 := by kernel_rfl
  f299 := by kernel_rfl
  f300 := by kernel_rfl
  f301 := by kernel_rfl
  f328 := by kernel_rfl
  f329 := by kernel_rfl
  f330 := by kernel_rfl
  f331 := by kernel_rfl
  f332 := by kernel_rfl
  f343 := by kernel_rfl
  t0 := by kernel_rfl
  a0 := fun _ => by rfl
  z0 := fun _ => by rfl
  v0 := fun _ => by rfl
  t3 := by kernel_rfl
  a3 := fun _ => by rfl
  z3 := fun _ => by rfl
  v3 := fun _ => by rfl
  t4 := by kernel_rfl
  a4 := fun _ => by rfl
  z4 := fun _ => by rfl
  v4 := fun _ => by rfl
  t5 := by kernel_rfl
  a5 := fun _ => by rfl
  z5 := fun _ => by rfl
  v5 := fun _ => by rfl
  t9 := by kernel_rfl
  a9 := fun _ => by rfl
  z9 := fun _ => by rfl
  v9 := fun _ => by rfl
  t28 := by kernel_rfl
  a28 := fun _ => by rfl
  z28 := fun _ => by rfl
  v28 := fun _ => by rfl
  t46 := by kernel_rfl
  a46 := fun _ => by rfl
  z46 := fun _ => by rfl
  v46 := fun _ => by rfl
  t51 := by kernel_rfl
  a51 := fun _ => by rfl
  z51 := fun _ => by rfl
  v51 := fun _ => by rfl
  t53 := by kernel_rfl
  a53 := fun _ => by rfl
  z53 := fun _ => by rfl
  v53 := fun _ => by rfl
  t131 := by kernel_rfl
  a131 := fun _ => by rfl
  z131 := fun _ => by rfl
  v131 := fun _ => by rfl
  t182 := by kernel_rfl
  a182 := fun _ => by rfl
  z182 := fun _ => by rfl
  v182 := fun _ => by rfl
  t183 := by kernel_rfl
  a183 := fun _ => by rfl
  z183 := fun _ => by rfl
  v183 := fun _ => by rfl
  t218 := by kernel_rfl
  a218 := fun _ => by rfl
  z218 := fun _ => by rfl
  v218 := fun _ => by rfl
  t222 := by kernel_rfl
  a222 := fun _ => by rfl
  z222 := fun _ => by rfl
  v222 := fun _ => by rfl
  t228 := by kernel_rfl
  a228 := fun _ => by rfl
  z228 := fun _ => by rfl
  v228 := fun _ => by rfl
  t229 := by kernel_rfl
  a229 := fun _ => by rfl
  z229 := fun _ => by rfl
  v229 := fun _ => by rfl


end Go.Proofs
set_option linter.unusedSimpArgs false
set_option linter.unusedVariables false
set_option maxRecDepth 100000
namespace Go.Proofs
open Go Go.Mu

/-- Keys that are met. -/
def trueM (l : List Int) : List (Int × Bool) := l.map fun k => (k, true)
theorem fIdx_trueM {k : Int} : ∀ {l : List Int} {i : Nat}, k ∈ l → ∃ j, fIdx k (trueM l) i = some (j, true)
  | [], _, h => by simp at h
  | x :: l, i, h => by
    simp only [trueM, List.map_cons, fIdx]
    by_cases e : k = x
    · exact ⟨i, by rw [if_pos e]⟩
    · rw [if_neg e]
      exact fIdx_trueM (by rcases List.mem_cons.1 h with h | h; exact absurd h e; exact h)
theorem fIdx_trueM_no {k : Int} : ∀ {l : List Int} {i : Nat}, k ∉ l → fIdx k (trueM l) i = none
  | [], _, h => rfl
  | x :: l, i, h => by
    simp only [trueM, List.map_cons, fIdx]
    rw [if_neg (fun e => h (by simp [e]))]
    exact fIdx_trueM_no fun hm => h (List.mem_cons_of_mem _ hm)
theorem lookM {l : List Int} {k : Int} {σ : List AObj} : lookR false (.bool false) σ (findA (.int .i64 k) (mapB (trueM l)) 0) = some (.bool (decide (k ∈ l)), σ) := by
  rw [lookB]
  unfold mget
  by_cases h : k ∈ l
  · obtain ⟨j, hj⟩ := fIdx_trueM (i := 0) h
    rw [hj]; simp [h]
  · rw [fIdx_trueM_no h]; simp [h]
theorem updM {l : List Int} {k : Int} {r : Nat} {σ : List AObj} (h : k ∉ l) : updR r (mapB (trueM l)) (.int .i64 k) (.bool true) σ (findA (.int .i64 k) (mapB (trueM l)) 0) = some (.tup [], hset σ r (.map (mapB (trueM (l ++ [k]))))) := by
  rw [updB]
  unfold mset
  rw [fIdx_trueM_no h]
  simp [trueM]
/-- Numbers, each once, in the order in which they came. -/
def addN (out : List Int) (n : Int) : List Int := if n ∈ out then out else out ++ [n]
def firstsL (l : List Int) : List Int := l.foldl addN []
def sortL (l : List Int) : List Int := l.mergeSort fun x y => decide (x ≤ y)
theorem addN_len (l : List Int) : ∀ out, (l.foldl addN out).length ≤ out.length + l.length := by
  induction l with
  | nil => intro out; simp
  | cons x l ih =>
    intro out
    refine Nat.le_trans (ih _) ?_
    simp only [addN, List.length_cons]
    split
    · omega
    · simp; omega
theorem addN_mem (l : List Int) : ∀ out x, x ∈ l.foldl addN out ↔ x ∈ out ∨ x ∈ l := by
  induction l with
  | nil => intro out x; simp
  | cons y l ih =>
    intro out x
    rw [List.foldl_cons, ih]
    unfold addN
    by_cases h : y ∈ out
    · rw [if_pos h]; simp only [List.mem_cons]
      constructor
      · rintro (h1 | h1); exact .inl h1; exact .inr (.inr h1)
      · rintro (h1 | rfl | h1); exact .inl h1; exact .inl h; exact .inr h1
    · rw [if_neg h]; simp only [List.mem_cons, List.mem_append, List.not_mem_nil, or_false]
      constructor
      · rintro ((h1 | h1) | h1); exact .inl h1; exact .inr (.inl h1); exact .inr (.inr h1)
      · rintro (h1 | h1 | h1); exact .inl (.inl h1); exact .inl (.inr h1); exact .inr h1
theorem addN_nodup (l : List Int) : ∀ out, out.Nodup → (l.foldl addN out).Nodup := by
  induction l with
  | nil => intro out h; exact h
  | cons y l ih =>
    intro out h
    refine ih _ ?_
    unfold addN
    by_cases hy : y ∈ out
    · rw [if_pos hy]; exact h
    · rw [if_neg hy, List.nodup_append]
      exact ⟨h, by simp, fun a ha b hb => by simp at hb; subst hb; rintro rfl; exact hy ha⟩
theorem sort_c (zs : List Int) (hz : zs ≠ []) (hn : zs.length ≤ 4294967296) {σ : List AObj} {r : Nat} (hg : hget σ r = some (.vec 1 (zs.map (.int .i64)))) {Q : AV → List AObj → Prop}
    (h : Q (.tup []) (hset σ r (.vec 1 ((sortL zs).map (.int .i64))))) : ACalls Tryz.prog 58 [.vec r zs.length] σ Q :=
  sort_a Tryz.lays189 (Callable.of Tryz.func58 (by kernel_rfl) (by kernel_rfl)) zs hz hn hg h
theorem sortL_len (l : List Int) : (sortL l).length = l.length := List.length_mergeSort _
/-- All tones of a tongue. -/
def oneE (e : Ear) (x : Int) : Int := if 0 ≤ x ∧ x ≤ e.tones.length - 1 then 0 else 3
def valuesL (e : Ear) (x : Int) : List Int × Int :=
  if (askL e (oneE e x)).2 = 0 then (sortL (firstsL ((truthsL e).map fun t => tg t x)), 0) else ([], (askL e (oneE e x)).2)
theorem askL_ok1 {e : Ear} {w : Int} (h : (askL e w).2 = 0) : ck e = 0 ∧ w = 0 ∧ truthsL e ≠ [] ∧ askL e w = (truthsL e, 0) := askL_ok h
theorem values_p (e : Ear) (x : Int) (h1 : e.tones.length ≤ 4294967296) (h2 : e.rds.length ≤ 4294967296) : PureV Tryz.prog 16 [e.av, .int .i64 x] (.tup [.list .no 1 ((valuesL e x).1.map (.int .i64)), .int .i64 (valuesL e x).2]) := by
  by_cases hk : (askL e (oneE e x)).2 = 0
  · obtain ⟨hc, hw, hn, hke⟩ := askL_ok hk
    have he := okE_of_ck hc
    have htl := truthsL_len he
    have hx : 0 ≤ x ∧ x ≤ 2 := by
      unfold oneE at hw
      split at hw
      · have := he.len; omega
      · cases hw
    have hv : valuesL e x = (sortL (firstsL ((truthsL e).map fun t => tg t x)), 0) := by unfold valuesL; rw [if_pos hk]
    rw [hv]
    intro σ Q hq
    have hQ : Q (.tup [.list .no 1 ((sortL (firstsL ((truthsL e).map fun t => tg t x))).map (.int .i64)), .int .i64 0]) σ := hq
    refine ACalls.clean ?_
    refine ACalls.frozeT ?_
    refine ACalls.of_ev (E := Tryz.E 48 Tryz.ord16 fs8) (Tryz.envOK 48 Tryz.ord16 fs8 fs8_ok) Tryz.kp16 Tryz.func16 rfl (by kernel_rfl) (by simp [Tryz.E]) (Callable.of Tryz.func16 (by kernel_rfl) (by kernel_rfl)) (by kernel_rfl) ?_
    have hxl : (x ≤ (e.tones.length : Int) - 1) = True := by
      unfold oneE at hw
      split at hw
      · rename_i h; exact eq_true h.2
      · cases hw
    rw [hw] at hke
    simp only [Ear.av]
    simp -implicitDefEqProofs (maxSteps := 2000000) (disch := omega) only [go_sem, reduceCtorEq, Nat.reduceAdd, Nat.reduceSub, Nat.reduceMul, Nat.reduceLT, Nat.reduceLeDiff, Nat.reduceEqDiff, Nat.reduceBEq, Int.reduceToNat, Int.reduceLT, Int.reduceLE, Int.reduceEq, Int.reduceNeg, Int.reduceAdd, Int.reduceSub, Int.reduceMul, ↓reduceIte, Int.reduceBEq, Int.reduceBNe, hke, hxl, tavs]
    refine ARun.ghostV 9 1 (sz0 := 0) rfl (by simp [lookA]) ?_
    simp only [ins, ↓reduceIte, List.append_assoc, List.cons_append, List.nil_append, List.length_append, List.length_cons, List.length_nil, Nat.zero_add, Nat.reduceEqDiff]
    have hL : truthsL e ≠ [] := hn
    have h3 : ∀ t ∈ truthsL e, t.length = 3 := fun t ht => (truthsL_ok he t ht).1
    clear hq hv hke hk hc he
    generalize truthsL e = L at hL h3 htl hQ ⊢
    refine ARun.forS (Tryz.envOK 48 Tryz.ord16 fs8 fs8_ok) L.length (fun _ => True) (fun i => [(9, .vec (σ.length + 2) (firstsL ((L.take i).map fun t => tg t x)).length), (27, .int .i64 i)]) (fun i j => σ ++ (.cells e.cells :: .map (mapB (trueM (firstsL ((L.take i).map fun t => tg t x)))) :: .vec 1 ((firstsL ((L.take i).map fun t => tg t x)).map (.int .i64)) :: j)) [] (by kernel_rfl) (by simp [Ear.cells, firstsL, trueM, mapB]) (by simp [upd, ins, subF, lookA, firstsL]) trivial ?_ ?_
    · intro i j hi _ ih
      have hmi : L[i] ∈ L := List.getElem_mem hi
      have h3i := h3 _ hmi
      have hstep : firstsL ((L.take (i + 1)).map fun t => tg t x) = addN (firstsL ((L.take i).map fun t => tg t x)) (tg L[i] x) := by
        unfold firstsL; rw [List.take_succ_eq_append_getElem hi, List.map_append, List.foldl_append]; rfl
      rw [hstep] at ih
      have hle : (firstsL ((L.take i).map fun t => tg t x)).length ≤ i := by
        refine Nat.le_trans (addN_len _ []) ?_
        simp; omega
      generalize firstsL ((L.take i).map fun t => tg t x) = O at hle ih ⊢
      clear hstep
      have hlk : ∀ σ, lookR false (.bool false) σ (findA (.int .i64 (tg L[i] x)) (mapB (trueM O)) 0) = some (.bool (decide (tg L[i] x ∈ O)), σ) := fun _ => lookM
      have hup : ∀ r σ, tg L[i] x ∉ O → updR r (mapB (trueM O)) (.int .i64 (tg L[i] x)) (.bool true) σ (findA (.int .i64 (tg L[i] x)) (mapB (trueM O)) 0) = some (.tup [], hset σ r (.map (mapB (trueM (O ++ [tg L[i] x]))))) := fun _ _ h => updM h
      by_cases hm : tg L[i] x ∈ O
      · have ha : addN O (tg L[i] x) = O := if_pos hm
        rw [ha] at ih
        have hd : decide (tg L[i] x ∈ O) = true := decide_eq_true hm
        rw [hd] at hlk
        simp -implicitDefEqProofs (maxSteps := 2000000) (disch := omega) only [go_sem, reduceCtorEq, Nat.reduceAdd, Nat.reduceSub, Nat.reduceMul, Nat.reduceLT, Nat.reduceLeDiff, Nat.reduceEqDiff, Nat.reduceBEq, Int.reduceToNat, Int.reduceLT, Int.reduceLE, Int.reduceEq, Int.reduceNeg, Int.reduceAdd, Int.reduceSub, Int.reduceMul, ↓reduceIte, Int.reduceBEq, Int.reduceBNe, tav, hlk]
        refine (ih trivial (j ++ [.cells (L[i].map (.int .i64))])).castS (by simp) (by simp [upd, ins, subF, lookA, tav])
      · have ha : addN O (tg L[i] x) = O ++ [tg L[i] x] := if_neg hm
        rw [ha] at ih
        have hd : decide (tg L[i] x ∈ O) = false := decide_eq_false hm
        rw [hd] at hlk
        replace hup := fun r σ => hup r σ hm
        simp -implicitDefEqProofs (maxSteps := 2000000) (disch := omega) only [go_sem, reduceCtorEq, Nat.reduceAdd, Nat.reduceSub, Nat.reduceMul, Nat.reduceLT, Nat.reduceLeDiff, Nat.reduceEqDiff, Nat.reduceBEq, Int.reduceToNat, Int.reduceLT, Int.reduceLE, Int.reduceEq, Int.reduceNeg, Int.reduceAdd, Int.reduceSub, Int.reduceMul, ↓reduceIte, Int.reduceBEq, Int.reduceBNe, tav, hlk, hup]
        refine (ih trivial (j ++ [.cells (L[i].map (.int .i64))])).castS (by simp) (by simp [upd, ins, subF, lookA, tav])
    · intro j _
      rw [List.take_length]
      have hfl : (firstsL (L.map fun t => tg t x)).length ≤ 4294967296 := by
        refine Nat.le_trans (addN_len _ []) ?_
        simp; omega
      have hf0 : firstsL (L.map fun t => tg t x) ≠ [] := by
        obtain ⟨t, ht⟩ := List.exists_mem_of_ne_nil _ hL
        have : tg t x ∈ firstsL (L.map fun t => tg t x) := (addN_mem _ [] _).2 (.inr (List.mem_map.2 ⟨t, ht, rfl⟩))
        exact List.ne_nil_of_mem this
      generalize firstsL (L.map fun t => tg t x) = O at hfl hf0 hQ ⊢
      simp -implicitDefEqProofs (maxSteps := 2000000) (disch := omega) only [go_sem, reduceCtorEq, Nat.reduceAdd, Nat.reduceSub, Nat.reduceMul, Nat.reduceLT, Nat.reduceLeDiff, Nat.reduceEqDiff, Nat.reduceBEq, Int.reduceToNat, Int.reduceLT, Int.reduceLE, Int.reduceEq, Int.reduceNeg, Int.reduceAdd, Int.reduceSub, Int.reduceMul, ↓reduceIte, Int.reduceBEq, Int.reduceBNe]
      refine sort_c O hf0 hfl (by rw [hget_at]; rfl) ?_
      simp -implicitDefEqProofs (maxSteps := 2000000) (disch := omega) only [go_sem, reduceCtorEq, Nat.reduceAdd, Nat.reduceSub, Nat.reduceMul, Nat.reduceLT, Nat.reduceLeDiff, Nat.reduceEqDiff, Nat.reduceBEq, Int.reduceToNat, Int.reduceLT, Int.reduceLE, Int.reduceEq, Int.reduceNeg, Int.reduceAdd, Int.reduceSub, Int.reduceMul, ↓reduceIte, Int.reduceBEq, Int.reduceBNe]
      refine ⟨_, 0, σ.length + 2, 1, (sortL O).map (.int .i64), rfl, by simp [sortL_len], by rw [hget_at]; rfl, _, _, hset_at, Weak.refl _, ?_, hQ⟩
      exact (Plain.tup (by simp; exact ⟨Plain.ints, .int⟩)) _
  · have hv : valuesL e x = ([], (askL e (oneE e x)).2) := by unfold valuesL; rw [if_neg hk]
    rw [hv]
    refine PureV.of_ev (E := Tryz.E 48 Tryz.ord16 fs8) (Tryz.envOK 48 Tryz.ord16 fs8 fs8_ok) (.tup (by simp; exact ⟨Plain.ints (xs := []), .int⟩)) Tryz.kp16 Tryz.func16 rfl (by kernel_rfl) (by simp [Tryz.E]) (Callable.of Tryz.func16 (by kernel_rfl) (by kernel_rfl)) (by kernel_rfl) ?_
    intro σ
    simp only [oneE] at hk ⊢
    have hk' : ¬ (askL ⟨e.slack, e.tones, e.rds⟩ (if 0 ≤ x ∧ x ≤ (e.tones.length : Int) - 1 then 0 else 3)).2 = 0 := hk
    simp only [Ear.av]
    simp -implicitDefEqProofs (maxSteps := 2000000) (disch := omega) only [go_sem, reduceCtorEq, Nat.reduceAdd, Nat.reduceSub, Nat.reduceMul, Nat.reduceLT, Nat.reduceLeDiff, Nat.reduceEqDiff, Nat.reduceBEq, Int.reduceToNat, Int.reduceLT, Int.reduceLE, Int.reduceEq, Int.reduceNeg, Int.reduceAdd, Int.reduceSub, Int.reduceMul, ↓reduceIte, Int.reduceBEq, Int.reduceBNe, hk', tavs]
    first | done | simp
def values_s := spec2 tEar tI fun e x => if e.tones.length ≤ 4294967296 ∧ e.rds.length ≤ 4294967296 then some (.tup [.list .no 1 ((valuesL e x).1.map (.int .i64)), .int .i64 (valuesL e x).2]) else none
theorem values_ok : ∀ xs v, values_s xs = some v → PureV Tryz.prog 16 xs v :=
  spec2_ok fun e x v h => by have h := someIf h; rw [← h.2]; exact values_p e x h.1.1 h.1.2
end Go.Proofs
