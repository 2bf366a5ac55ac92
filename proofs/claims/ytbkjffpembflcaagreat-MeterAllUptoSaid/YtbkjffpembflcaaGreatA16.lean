/- Texts of a proof: lemmas. -/
import Derived.Test.YtbkjffpembflcaaGreatA15
set_option linter.unusedSimpArgs false
set_option linter.unusedVariables false
set_option maxRecDepth 100000
namespace Go.Proofs
open Go Go.Mu

/-- Whether some reading leaves only truths by which it is known, or some reading decides it. -/
def twoL (x : Int) (w : Rng) (rl : List Rd) (sl : Int) (l : List (List Int)) : Bool := rl.any fun r => (outcomesL r sl l).all fun p => oneL x w rl sl p.2
set_option maxHeartbeats 1000000 in
theorem qtwo_p (x : Int) (w : Rng) (tk : Tok) (rl : List Rd) (sl : Int) (l : List (List Int)) (hx : 0 ≤ x ∧ x ≤ 2) (hsl : 0 ≤ sl ∧ sl ≤ 3) (hl : l.length ≤ 10000) (h3 : ∀ t ∈ l, t.length = 3 ∧ small t) (hrl : rl.length ≤ 4294967296) (hr : ∀ r ∈ rl, okR r) :
    PureV Tryz.prog 89 [qav x w (.list tk 1 (rl.map fun r => rdv r sl)), tavs l] (.bool (twoL x w rl sl l)) := by
  refine PureV.of_ev (E := Tryz.E 29 (fun _ => ([], [])) fs5) (Tryz.envOK 29 (fun _ => ([], [])) fs5 fs5_ok) (.bool) Tryz.kp89 Tryz.func89 rfl (by kernel_rfl) (by simp [Tryz.E]) (Callable.of Tryz.func89 (by kernel_rfl) (by kernel_rfl)) (by kernel_rfl) ?_
  intro σ
  simp only [qav, tavs]
  simp -implicitDefEqProofs (maxSteps := 2000000) (disch := omega) only [go_sem, reduceCtorEq, Nat.reduceAdd, Nat.reduceSub, Nat.reduceMul, Nat.reduceLT, Nat.reduceLeDiff, Nat.reduceEqDiff, Nat.reduceBEq, Int.reduceToNat, Int.reduceLT, Int.reduceLE, Int.reduceEq, Int.reduceNeg, Int.reduceAdd, Int.reduceSub, Int.reduceMul, ↓reduceIte, Int.reduceBEq, Int.reduceBNe]
  refine ARun.forS (Tryz.envOK 29 (fun _ => ([], [])) fs5 fs5_ok) rl.length (fun i => ((rl.take i).any fun r => (outcomesL r sl l).all fun p => oneL x w rl sl p.2) = false) (fun i => [(12, .int .i64 i)]) (fun _ j => σ ++ (.cells [.int .i64 x, .int .i64 w.lo, .int .i64 w.hi, .list tk 1 (rl.map fun r => rdv r sl)] :: j)) [] (by kernel_rfl) rfl (by simp [upd, ins, subF, lookA]) (by simp) ?_ ?_
  · intro i j hi hP ih
    have hri := hr _ (List.getElem_mem hi)
    have hany := List.any_append (xs := rl.take i) (ys := [rl[i]]) (f := fun r => (outcomesL r sl l).all fun p => oneL x w rl sl p.2)
    rw [← List.take_succ_eq_append_getElem hi, hP, Bool.false_or] at hany
    simp only [List.any_cons, List.any_nil, Bool.or_false] at hany
    simp -implicitDefEqProofs (maxSteps := 2000000) (disch := omega) only [go_sem, reduceCtorEq, Nat.reduceAdd, Nat.reduceSub, Nat.reduceMul, Nat.reduceLT, Nat.reduceLeDiff, Nat.reduceEqDiff, Nat.reduceBEq, Int.reduceToNat, Int.reduceLT, Int.reduceLE, Int.reduceEq, Int.reduceNeg, Int.reduceAdd, Int.reduceSub, Int.reduceMul, ↓reduceIte, Int.reduceBEq, Int.reduceBNe, rdv_cells, giveB_rdv]
    refine outcomes_c rl[i] sl l hri hsl hl h3 _ _ fun τ m hO hm => ?_
    have hmap := hO.map
    have hlenS := hO.len
    have hold := hO.old
    have hs0 := hold σ.length (by simp)
    rw [hget_at0] at hs0
    simp only [List.getElem?_cons_zero] at hs0
    simp only [List.length_append, List.length_cons] at hmap hlenS hold
    generalize hrm : σ.length + (j.length + 1) = rm at hmap hlenS hold
    have hml : (mapT m).length = m.length := by simp [mapT]
    simp -implicitDefEqProofs (maxSteps := 2000000) (disch := omega) only [go_sem, reduceCtorEq, Nat.reduceAdd, Nat.reduceSub, Nat.reduceMul, Nat.reduceLT, Nat.reduceLeDiff, Nat.reduceEqDiff, Nat.reduceBEq, Int.reduceToNat, Int.reduceLT, Int.reduceLE, Int.reduceEq, Int.reduceNeg, Int.reduceAdd, Int.reduceSub, Int.reduceMul, ↓reduceIte, Int.reduceBEq, Int.reduceBNe, hmap, hrm, hml]
    let Ok (i2 : Nat) : Prop := ∀ p, m[i2]? = some p → oneL x w rl sl p.2.2 = true
    refine ARun.loopJ (Tryz.envOK 29 (fun _ => ([], [])) fs5 fs5_ok) (α := List Nat) (fun seen => m.length - seen.length) (fun seen τ' => τ.length < τ'.length ∧ (∀ q, q < σ.length → hget τ' q = hget σ q) ∧ hget τ' σ.length = some (.cells [.int .i64 x, .int .i64 w.lo, .int .i64 w.hi, .list tk 1 (rl.map fun r => rdv r sl)]) ∧ hget τ' rm = some (.map (mapT m)) ∧ hget τ' τ.length = some (.iter (some rm) m.length seen) ∧ seen.Nodup ∧ (∀ i2 ∈ seen, i2 < m.length ∧ Ok i2)) (fun _ => []) [] (by kernel_rfl) (by simp [upd, ins, subF, lookA]) ?_ ?_
    · refine ⟨by simp, fun q hq => ?_, ?_, ?_, hget_at0, by simp, by simp⟩
      · rw [hget_app (by omega), hold q (by omega), hget_app hq]
      · rw [hget_app (by omega)]; exact hs0
      · rw [hget_app (by omega)]; exact hmap
    · rintro seen τ' ⟨j1, j2, j3, j5, j6, j7, j8⟩ ih2
      simp -implicitDefEqProofs (maxSteps := 2000000) (disch := omega) only [go_sem, reduceCtorEq, Nat.reduceAdd, Nat.reduceSub, Nat.reduceMul, Nat.reduceLT, Nat.reduceLeDiff, Nat.reduceEqDiff, Nat.reduceBEq, Int.reduceToNat, Int.reduceLT, Int.reduceLE, Int.reduceEq, Int.reduceNeg, Int.reduceAdd, Int.reduceSub, Int.reduceMul, ↓reduceIte, Int.reduceBEq, Int.reduceBNe]
      refine nextA_intro j6 j5 hml.symm (fun i2 k v hi2 hns => ?_) (fun hall => ?_)
      · obtain ⟨p, hp, hkv⟩ : ∃ p, m[i2]? = some p ∧ (AV.int .i64 p.1, AV.list (.own p.2.1) 3 (p.2.2.map tav)) = (k, v) := by simpa [mapT] using hi2
        simp only [Prod.mk.injEq] at hkv
        obtain ⟨rfl, rfl⟩ := hkv
        have hpm : p ∈ m := List.mem_of_getElem? hp
        obtain ⟨hi2l, _⟩ := List.getElem?_eq_some_iff.1 hp
        have hpo : (p.1, p.2.2) ∈ outcomesL rl[i] sl l := by rw [← hm]; exact List.mem_map.2 ⟨p, hpm, rfl⟩
        obtain ⟨hne, hsub⟩ := outcomes_sub _ hpo
        simp only at hne hsub
        have htlp := (hO.tl p hpm).2.2
        have hsm : ∀ t ∈ p.2.2, t.length = 3 ∧ small t := fun t ht => h3 t (hsub t ht)
        have hrτ : rm < τ.length := hget_lt hmap
        have k1 : hget (hset τ' τ.length (.iter (some rm) m.length (seen ++ [i2]))) τ.length = some (.iter (some rm) m.length (seen ++ [i2])) := hget_set j6 _
        have k2 : ∀ q, q ≠ τ.length → hget (hset τ' τ.length (.iter (some rm) m.length (seen ++ [i2]))) q = hget τ' q := fun q hq => hget_ne (fun e => hq e.symm)
        have k3 : (hset τ' τ.length (.iter (some rm) m.length (seen ++ [i2]))).length = τ'.length := length_hset
        generalize hset τ' τ.length (.iter (some rm) m.length (seen ++ [i2])) = τ1 at k1 k2 k3 ⊢
        have k5 : hget τ1 rm = some (.map (mapT m)) := by rw [k2 _ (by omega)]; exact j5
        have k6 : hget τ1 σ.length = some (.cells [.int .i64 x, .int .i64 w.lo, .int .i64 w.hi, .list tk 1 (rl.map fun r => rdv r sl)]) := by rw [k2 _ (by omega)]; exact j3
        have hgl : (seen ++ [i2]).getLast? = some i2 := by simp
        simp -implicitDefEqProofs (maxSteps := 2000000) (disch := omega) only [go_sem, reduceCtorEq, Nat.reduceAdd, Nat.reduceSub, Nat.reduceMul, Nat.reduceLT, Nat.reduceLeDiff, Nat.reduceEqDiff, Nat.reduceBEq, Int.reduceToNat, Int.reduceLT, Int.reduceLE, Int.reduceEq, Int.reduceNeg, Int.reduceAdd, Int.reduceSub, Int.reduceMul, ↓reduceIte, Int.reduceBEq, Int.reduceBNe, k1, k5, k6, hgl, hi2, hml]
        refine ACalls.weaken (l' := [qav x w (.list tk 1 (rl.map fun r => rdv r sl)), tavs p.2.2]) ⟨⟨rfl, rfl, rfl, ⟨rfl, .inl rfl, .inr rfl⟩, trivial⟩, ⟨rfl, .inl rfl, .inl rfl⟩, trivial⟩ (qone_p x w tk rl sl p.2.2 hx hsl (by omega) hsm hrl hr _ _ ?_)
        cases hone : oneL x w rl sl p.2.2
        · simp -implicitDefEqProofs (maxSteps := 2000000) (disch := omega) only [go_sem, reduceCtorEq, Nat.reduceAdd, Nat.reduceSub, Nat.reduceMul, Nat.reduceLT, Nat.reduceLeDiff, Nat.reduceEqDiff, Nat.reduceBEq, Int.reduceToNat, Int.reduceLT, Int.reduceLE, Int.reduceEq, Int.reduceNeg, Int.reduceAdd, Int.reduceSub, Int.reduceMul, ↓reduceIte, Int.reduceBEq, Int.reduceBNe]
          have hg : ((outcomesL rl[i] sl l).all fun p => oneL x w rl sl p.2) = false := by
            rw [List.all_eq_false]
            exact ⟨_, hpo, by simp [hone]⟩
          obtain ⟨j', hj'⟩ := app_of_same (σ := σ ++ [.cells [.int .i64 x, .int .i64 w.lo, .int .i64 w.hi, .list tk 1 (rl.map fun r => rdv r sl)]]) (τ := τ1) (by simp; omega) (fun q hq => by
            simp only [List.length_append, List.length_cons, List.length_nil] at hq
            rw [k2 _ (by omega)]
            rcases (by omega : q < σ.length ∨ q = σ.length) with hq' | rfl
            · rw [j2 q hq', hget_app hq']
            · rw [j3, hget_at0]; rfl)
          rw [hj', List.append_assoc]
          exact (ih (by rw [hany, hg]) j').castS rfl (by simp [upd, ins, subF, lookA])
        · simp -implicitDefEqProofs (maxSteps := 2000000) (disch := omega) only [go_sem, reduceCtorEq, Nat.reduceAdd, Nat.reduceSub, Nat.reduceMul, Nat.reduceLT, Nat.reduceLeDiff, Nat.reduceEqDiff, Nat.reduceBEq, Int.reduceToNat, Int.reduceLT, Int.reduceLE, Int.reduceEq, Int.reduceNeg, Int.reduceAdd, Int.reduceSub, Int.reduceMul, ↓reduceIte, Int.reduceBEq, Int.reduceBNe]
          have hnd : (seen ++ [i2]).Nodup := by
            rw [List.nodup_append]
            exact ⟨j7, by simp, fun a ha b hb e => by simp at hb; subst hb; exact hns (e ▸ ha)⟩
          have hall2 : ∀ i3 ∈ seen ++ [i2], i3 < m.length ∧ Ok i3 := fun i3 h3 => by
            rcases List.mem_append.1 h3 with h3 | h3
            · exact j8 i3 h3
            · simp at h3; subst h3
              refine ⟨hi2l, fun p' hp' => ?_⟩
              rw [hp] at hp'; simp at hp'; subst hp'; exact hone
          have hcard := nodup_lt hnd (fun i3 h3 => (hall2 i3 h3).1)
          simp only [List.length_append, List.length_cons, List.length_nil] at hcard
          exact (ih2 (seen ++ [i2]) _ (by simp only [List.length_append, List.length_cons, List.length_nil]; omega) ⟨by omega, fun q hq => by rw [k2 _ (by omega)]; exact j2 q hq, k6, k5, k1, hnd, hall2⟩).castS rfl (by simp [upd, ins, subF, lookA])
      · have hg : ((outcomesL rl[i] sl l).all fun p => oneL x w rl sl p.2) = true := by
          rw [List.all_eq_true]
          intro p' hp'
          rw [← hm] at hp'
          obtain ⟨p, hp, rfl⟩ := List.mem_map.1 hp'
          obtain ⟨i2, hi2, rfl⟩ := List.mem_iff_getElem.1 hp
          exact (j8 i2 (hall i2 (by rw [hml]; exact hi2))).2 _ (List.getElem?_eq_getElem hi2)
        simp -implicitDefEqProofs (maxSteps := 2000000) (disch := omega) only [go_sem, reduceCtorEq, Nat.reduceAdd, Nat.reduceSub, Nat.reduceMul, Nat.reduceLT, Nat.reduceLeDiff, Nat.reduceEqDiff, Nat.reduceBEq, Int.reduceToNat, Int.reduceLT, Int.reduceLE, Int.reduceEq, Int.reduceNeg, Int.reduceAdd, Int.reduceSub, Int.reduceMul, ↓reduceIte, Int.reduceBEq, Int.reduceBNe]
        refine gives_same (by omega) (fun q hq => j2 q hq) ?_
        have : twoL x w rl sl l = true := List.any_eq_true.2 ⟨_, List.getElem_mem hi, hg⟩
        rw [this]; rfl
  · intro j hP
    rw [List.take_length] at hP
    simp -implicitDefEqProofs (maxSteps := 2000000) (disch := omega) only [go_sem, reduceCtorEq, Nat.reduceAdd, Nat.reduceSub, Nat.reduceMul, Nat.reduceLT, Nat.reduceLeDiff, Nat.reduceEqDiff, Nat.reduceBEq, Int.reduceToNat, Int.reduceLT, Int.reduceLE, Int.reduceEq, Int.reduceNeg, Int.reduceAdd, Int.reduceSub, Int.reduceMul, ↓reduceIte, Int.reduceBEq, Int.reduceBNe]
    simp [twoL, hP]
end Go.Proofs
