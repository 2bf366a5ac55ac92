/- Texts of a proof: lemmas. -/
import Derived.Test.YtbkjffpembflcaaGreatK4
set_option linter.unusedSimpArgs false
set_option linter.unusedVariables false
set_option maxRecDepth 100000
namespace Go.Proofs
open Go Go.Mu

set_option maxHeartbeats 400000000 in
theorem meterAll_c (nums : List Int) (hl : nums.length ≤ 4294967296) (σ : List AObj) : ACalls Tryz.prog 4 [.list .no 1 (nums.map (.int .i64))] σ (fun v _ => v = .bool true) := by
  refine ACalls.of_ev (E := Tryz.E 322 Tryz.ord4 fs73) (Tryz.envOK 322 Tryz.ord4 fs73 fs73_ok) Tryz.kp4 Tryz.func4 rfl (by kernel_rfl) (by simp [Tryz.E]) (Callable.of Tryz.func4 (by kernel_rfl) (by kernel_rfl)) (by kernel_rfl) ?_
  simp -implicitDefEqProofs (maxSteps := 2000000) (disch := omega) only [go_sem, reduceCtorEq, Nat.reduceAdd, Nat.reduceSub, Nat.reduceMul, Nat.reduceLT, Nat.reduceLeDiff, Nat.reduceEqDiff, Nat.reduceBEq, Int.reduceToNat, Int.reduceLT, Int.reduceLE, Int.reduceEq, Int.reduceNeg, Int.reduceAdd, Int.reduceSub, Int.reduceMul, ↓reduceIte, Int.reduceBEq, Int.reduceBNe]
  refine newPot_c nums .no hl _ _ fun s0 junk0 => ?_
  have hp : PotAt (σ ++ (.cells [.int .u64 s0] :: junk0)) σ.length := ⟨s0, by rw [hget_at0]; rfl⟩
  generalize σ ++ (.cells [.int .u64 s0] :: junk0) = σ1 at hp ⊢
  generalize σ.length = r at hp ⊢
  simp -implicitDefEqProofs (maxSteps := 2000000) (disch := omega) only [go_sem, reduceCtorEq, Nat.reduceAdd, Nat.reduceSub, Nat.reduceMul, Nat.reduceLT, Nat.reduceLeDiff, Nat.reduceEqDiff, Nat.reduceBEq, Int.reduceToNat, Int.reduceLT, Int.reduceLE, Int.reduceEq, Int.reduceNeg, Int.reduceAdd, Int.reduceSub, Int.reduceMul, ↓reduceIte, Int.reduceBEq, Int.reduceBNe]
  refine shaken_c r 3 4 3 (by omega) (by omega) (by omega) _ hp _ fun s1 e junk1 q hck hlo hhi hrs hq hv => ?_
  obtain ⟨sl, ts, rs⟩ := e
  simp only at hlo hhi hrs hv
  replace hp : PotAt (pw σ1 r s1 ++ junk1) r := (hp.pw s1).app
  generalize pw σ1 r s1 ++ junk1 = σ2 at hp hv ⊢
  clear junk0 junk1 hq
  have hr := hp.lt
  have hql := hget_lt hv
  have hqr : q ≠ r := fun e => by obtain ⟨s, hs⟩ := hp; rw [← e, hv] at hs; cases hs
  have hvx : ∀ X, hget (σ2 ++ X) q = some (.vec 6 (rs.map Rd.av)) := fun X => by rw [hget_app hql]; exact hv
  simp -implicitDefEqProofs (maxSteps := 2000000) (disch := omega) only [go_sem, reduceCtorEq, Nat.reduceAdd, Nat.reduceSub, Nat.reduceMul, Nat.reduceLT, Nat.reduceLeDiff, Nat.reduceEqDiff, Nat.reduceBEq, Int.reduceToNat, Int.reduceLT, Int.reduceLE, Int.reduceEq, Int.reduceNeg, Int.reduceAdd, Int.reduceSub, Int.reduceMul, ↓reduceIte, Int.reduceBEq, Int.reduceBNe, length_pw, hget_pw0, hget_pw, hset_pw0, hset_pw, hvx]
  have h4 : hget (σ2 ++ [(AObj.cells [.int .i64 sl, .list .no 2 (ts.map Rng.av), .vec q rs.length])]) σ2.length = some (AObj.cells [.int .i64 sl, .list .no 2 (ts.map Rng.av), .vec q rs.length]) := by rw [hget_at0]; rfl
  have hvR := hvx [(AObj.cells [.int .i64 sl, .list .no 2 (ts.map Rng.av), .vec q rs.length])]
  replace hp : PotAt (σ2 ++ [(AObj.cells [.int .i64 sl, .list .no 2 (ts.map Rng.av), .vec q rs.length])]) r := hp.app
  have hn4 : σ2.length ≠ r := by omega
  have hn4q : q ≠ σ2.length := by omega
  generalize σ2 ++ [(AObj.cells [.int .i64 sl, .list .no 2 (ts.map Rng.av), .vec q rs.length])] = τ at hp h4 hvR ⊢
  generalize σ2.length = R4 at h4 hn4 hn4q ⊢
  clear hvx hv hr hql
  refine ACalls.freezeA R4 2 (xs := rs.map Rd.av) h4 rfl hvR (by simp) ?_
  simp only [List.set_cons_succ, List.set_cons_zero]
  have h4z : hget (hset (hset τ q .dead) R4 (AObj.cells [.int .i64 sl, .list .no 2 (ts.map Rng.av), .list .no 6 (rs.map Rd.av)])) R4 = some (AObj.cells [.int .i64 sl, .list .no 2 (ts.map Rng.av), .list .no 6 (rs.map Rd.av)]) := by
    have h0 : hget (hset τ q .dead) R4 = some (AObj.cells [.int .i64 sl, .list .no 2 (ts.map Rng.av), .vec q rs.length]) := by rw [hget_ne hn4q]; exact h4
    exact hget_set h0 _
  replace hp : PotAt (hset (hset τ q .dead) R4 (AObj.cells [.int .i64 sl, .list .no 2 (ts.map Rng.av), .list .no 6 (rs.map Rd.av)])) r := by
    obtain ⟨s, hs⟩ := hp
    exact ⟨s, by rw [hget_ne hn4, hget_ne hqr]; exact hs⟩
  generalize hset (hset τ q .dead) R4 (AObj.cells [.int .i64 sl, .list .no 2 (ts.map Rng.av), .list .no 6 (rs.map Rd.av)]) = τ0 at hp h4z ⊢
  clear h4 hvR hn4q hqr
  refine PureV.weaken (l' := [(⟨sl, ts, rs⟩ : Ear).av]) (by simp [wkL, wk, wk1, wk0, Ear.av]) (ltruths_p ⟨sl, ts, rs⟩ hck) _ _ ?_
  have hts3 := (okE_of_ck hck).len
  have hrs3 : rs.length ≤ 100 := by omega
  have hnt : truthsN ⟨sl, ts, rs⟩ = (((truthsR ⟨sl, ts, rs⟩).length : Int), 0) := by unfold truthsN; rw [if_pos hck, truthsR_length]
  have hno := noTruth hck
  have hal := allP hck
  have hrl := truthsR_len (okE_of_ck hck)
  have htn := (okE_of_ck hck).tone
  simp only at hts3 hno hal htn
  generalize truthsR ⟨sl, ts, rs⟩ = R at hnt hno hal hrl ⊢
  have h4q : ∀ l, hget (τ0 ++ l) R4 = some (AObj.cells [.int .i64 sl, .list .no 2 (ts.map Rng.av), .list .no 6 (rs.map Rd.av)]) := fun l => by rw [hget_app (hget_lt h4z)]; exact h4z
  by_cases hR : R = []
  · obtain ⟨e1, e2, e3⟩ := hno hR hlo
    subst hR
    clear hno hal
    simp only [tss, List.map_nil]
    simp -implicitDefEqProofs (maxSteps := 2000000) (disch := omega) only [go_sem, reduceCtorEq, Nat.reduceAdd, Nat.reduceSub, Nat.reduceMul, Nat.reduceLT, Nat.reduceLeDiff, Nat.reduceEqDiff, Nat.reduceBEq, Int.reduceToNat, Int.reduceLT, Int.reduceLE, Int.reduceEq, Int.reduceNeg, Int.reduceAdd, Int.reduceSub, Int.reduceMul, ↓reduceIte, Int.reduceBEq, Int.reduceBNe, h4z, h4q, hnt, e1, e2, e3, List.length_nil, Rng.av]
  obtain ⟨hRne, hrl2, hok, hva, hto, hwi, hhi2, hbe⟩ := hal hR
  clear hno hal hrl2
  have hRl : ¬ R.length = 0 := fun h => hR (List.length_eq_zero_iff.1 h)
  obtain ⟨A, hA⟩ : ∃ A, ((List.range ts.length).map fun (i : Nat) => spanL (fun t => tg t i) R) = A := ⟨_, rfl⟩
  have hAl : A.length = ts.length := by rw [← hA]; simp
  have hAi : ∀ i, i < ts.length → idx (A.map Rng.av) (i : Int) = some (spanL (fun t => tg t i) R).av := fun i hi => by
    rw [idx_map (by omega)]
    congr 2
    subst hA
    simp
  simp only at hto
  rw [hA] at hto
  clear hA
  simp only [tss]
  simp -implicitDefEqProofs (maxSteps := 2000000) (disch := omega) only [go_sem, reduceCtorEq, Nat.reduceAdd, Nat.reduceSub, Nat.reduceMul, Nat.reduceLT, Nat.reduceLeDiff, Nat.reduceEqDiff, Nat.reduceBEq, Int.reduceToNat, Int.reduceLT, Int.reduceLE, Int.reduceEq, Int.reduceNeg, Int.reduceAdd, Int.reduceSub, Int.reduceMul, ↓reduceIte, Int.reduceBEq, Int.reduceBNe, h4z, h4q, hnt, hto]
  clear hnt hto hR hRl hck hlo hhi hrs
  refine ARun.castS (sl' := [(2, AV.bool false), (3, .ptr r 0), (4, .ptr R4 0), (5, .list .no 1 (R.map isv)), (8, .list .no 2 (A.map Rng.av)), (14, .int .i64 0)]) (σ' := τ0) ?_ rfl (by simp [upd, ins, subF, lookA])
  refine ARun.countG (Tryz.envOK 322 Tryz.ord4 fs73 fs73_ok) A.length (fun _ τ => PotAt τ r ∧ hget τ R4 = some (AObj.cells [.int .i64 sl, .list .no 2 (ts.map Rng.av), .list .no 6 (rs.map Rd.av)])) (fun i => [(14, .int .i64 i)]) (by kernel_rfl) (by kernel_rfl) (by simp [upd, ins, subF, lookA]) ⟨hp, h4z⟩ ?_ ?_
  · exact fun K Q' hK i τ hi hJ ih => allI_round hn4 hts3 hrs3 hrl hRne hAl htn hok hAi hva hwi hhi2 hbe K Q' hK i τ hi hJ ih
  · rintro τ ⟨hp, h4z⟩
    clear hva hwi hhi2 hbe hok htn hAi
    simp only [upd, ins, Nat.reduceEqDiff, ↓reduceIte]
    simp -implicitDefEqProofs (maxSteps := 2000000) (disch := omega) only [go_sem, reduceCtorEq, Nat.reduceAdd, Nat.reduceSub, Nat.reduceMul, Nat.reduceLT, Nat.reduceLeDiff, Nat.reduceEqDiff, Nat.reduceBEq, Int.reduceToNat, Int.reduceLT, Int.reduceLE, Int.reduceEq, Int.reduceNeg, Int.reduceAdd, Int.reduceSub, Int.reduceMul, ↓reduceIte, Int.reduceBEq, Int.reduceBNe]
end Go.Proofs
