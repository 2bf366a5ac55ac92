/- Texts of a proof: lemmas. -/
import Derived.Test.YtbkjffpembflcaaGreatQ1
import Derived.Test.YtbkjffpembflcaaGreatAJ
import Derived.Test.YtbkjffpembflcaaGreatBC
set_option linter.unusedSimpArgs false
set_option linter.unusedVariables false
set_option maxRecDepth 100000
namespace Go.Proofs
open Go Go.Mu

theorem loudT_p (e : Ear) (h1 : e.tones.length ≤ 4294967296) (h2 : e.rds.length ≤ 4294967296) : PureV Tryz.prog 6 [e.av] (.bool (decide (20 < e.tones.length ∨ 20 < e.rds.length))) := by
  refine PureV.of_ev (E := Tryz.E 13 (fun _ => ([], [])) fs0) (Tryz.envOK 13 (fun _ => ([], [])) fs0 fs0_ok) (.bool) Tryz.kp6 Tryz.func6 rfl (by kernel_rfl) (by simp [Tryz.E]) (Callable.of Tryz.func6 (by kernel_rfl) (by kernel_rfl)) (by kernel_rfl) ?_
  intro σ
  simp only [Ear.av]
  simp -implicitDefEqProofs (maxSteps := 2000000) (disch := omega) only [go_sem, reduceCtorEq, Nat.reduceAdd, Nat.reduceSub, Nat.reduceMul, Nat.reduceLT, Nat.reduceLeDiff, Nat.reduceEqDiff, Nat.reduceBEq, Int.reduceToNat, Int.reduceLT, Int.reduceLE, Int.reduceEq, Int.reduceNeg, Int.reduceAdd, Int.reduceSub, Int.reduceMul, ↓reduceIte, Int.reduceBEq, Int.reduceBNe]
  refine ⟨fun h => ?_, fun h => ⟨fun h2 => ?_, fun h2 => ?_⟩⟩
  · simp; omega
  · simp; omega
  · simp; omega
def loudT_s := spec1 tEar fun e => if e.tones.length ≤ 4294967296 ∧ e.rds.length ≤ 4294967296 then some (.bool (decide (20 < e.tones.length ∨ 20 < e.rds.length))) else none
theorem loudT_ok : ∀ xs v, loudT_s xs = some v → PureV Tryz.prog 6 xs v :=
  spec1_ok fun e v h => by have h := someIf h; rw [← h.2]; exact loudT_p e h.1.1 h.1.2
theorem tonesL_len (e : Ear) (h : e.tones.length ≤ 4294967296) : (tonesL e).1.length ≤ 4294967296 := by
  unfold tonesL; split
  · simpa using h
  · simp
theorem valuesL_len (e : Ear) (x : Int) : (valuesL e x).1.length ≤ 4294967296 := by
  unfold valuesL; split
  · rename_i h
    obtain ⟨hc, _, _, _⟩ := askL_ok1 h
    have := truthsL_len (okE_of_ck hc)
    have h2 := firstsL_len ((truthsL e).map fun t => tg t x)
    rw [List.length_map] at h2
    simp only [sortL_len]; omega
  · simp
theorem hgetT_pwa {σ l : List AObj} {r q : Nat} {s : Int} {o : AObj} (h : hget σ q = some o) (hne : q ≠ r) : hget (pw σ r s ++ l) q = some o := by
  rw [hget_app (by rw [length_pw]; exact hget_lt h)]
  unfold pw
  rw [hget_ne (fun e => hne e.symm)]; exact h
def fs72 (f : FuncId) (xs : List AV) : Option AV := if f = 6 then loudT_s xs else if f = 22 then sameEars_s xs else if f = 21 then sameInts_s xs else if f = 16 then values_s xs else if f = 19 then rcheck_s xs else if f = 13 then rtruths_s xs else if f = 15 then rtones_s xs else if f = 17 then rvalues_s xs else fs21 f xs
theorem fs72_ok : ∀ f xs v, fs72 f xs = some v → PureV Tryz.prog f xs v := by
  intro f xs v h
  unfold fs72 at h
  split at h
  · rename_i e; subst e; exact loudT_ok _ _ h
  split at h
  · rename_i e; subst e; exact sameEars_ok _ _ h
  split at h
  · rename_i e; subst e; exact sameInts_ok _ _ h
  split at h
  · rename_i e; subst e; exact values_ok _ _ h
  split at h
  · rename_i e; subst e; exact rcheck_ok _ _ h
  split at h
  · rename_i e; subst e; exact rtruths_ok _ _ h
  split at h
  · rename_i e; subst e; exact rtones_ok _ _ h
  split at h
  · rename_i e; subst e; exact rvalues_ok _ _ h
  exact fs21_ok _ _ _ h
attribute [go_sem] fs72 loudT_s sameEars_s sameInts_s values_s rcheck_s rtruths_s rtones_s rvalues_s
set_option maxHeartbeats 8000000 in
theorem meterTones_c (e : Ear) (x : Int) (more : Rd) (nums : List Int) (h1 : e.tones.length ≤ 4294967296) (h2 : e.rds.length ≤ 4294967296) (hl : nums.length ≤ 4294967296) (σ : List AObj) :
    ACalls Tryz.prog 3 [e.av, .int .i64 x, more.av, .list .no 1 (nums.map (.int .i64))] σ (fun v _ => v = .bool true) := by
  refine ACalls.of_ev (E := Tryz.E 167 Tryz.ord3 fs72) (Tryz.envOK 167 Tryz.ord3 fs72 fs72_ok) Tryz.kp3 Tryz.func3 rfl (by kernel_rfl) (by simp [Tryz.E]) (Callable.of Tryz.func3 (by kernel_rfl) (by kernel_rfl)) (by kernel_rfl) ?_
  obtain ⟨m1, m2, m3, m4, ⟨m5, m6⟩⟩ := more
  simp only [Ear.av, Rd.av]
  by_cases hld : 20 < e.tones.length ∨ 20 < e.rds.length
  · have hd : decide (20 < e.tones.length ∨ 20 < e.rds.length) = true := decide_eq_true hld
    clear hld
    simp -implicitDefEqProofs (maxSteps := 2000000) (disch := omega) only [go_sem, reduceCtorEq, Nat.reduceAdd, Nat.reduceSub, Nat.reduceMul, Nat.reduceLT, Nat.reduceLeDiff, Nat.reduceEqDiff, Nat.reduceBEq, Int.reduceToNat, Int.reduceLT, Int.reduceLE, Int.reduceEq, Int.reduceNeg, Int.reduceAdd, Int.reduceSub, Int.reduceMul, ↓reduceIte, Int.reduceBEq, Int.reduceBNe, hd]
  have hd : decide (20 < e.tones.length ∨ 20 < e.rds.length) = false := decide_eq_false hld
  simp -implicitDefEqProofs (maxSteps := 2000000) (disch := omega) only [go_sem, reduceCtorEq, Nat.reduceAdd, Nat.reduceSub, Nat.reduceMul, Nat.reduceLT, Nat.reduceLeDiff, Nat.reduceEqDiff, Nat.reduceBEq, Int.reduceToNat, Int.reduceLT, Int.reduceLE, Int.reduceEq, Int.reduceNeg, Int.reduceAdd, Int.reduceSub, Int.reduceMul, ↓reduceIte, Int.reduceBEq, Int.reduceBNe, hd]
  clear hd hld
  have hE : hget (σ ++ [(AObj.cells [.int .i64 e.slack, .list .no 2 (e.tones.map Rng.av), .list .no 6 (e.rds.map Rd.av)]), (AObj.cells [.int .i64 m1, .int .i64 m2, .int .i64 m3, .int .i64 m4, .int .i64 m5, .int .i64 m6])]) σ.length = some (AObj.cells [.int .i64 e.slack, .list .no 2 (e.tones.map Rng.av), .list .no 6 (e.rds.map Rd.av)]) := by rw [hget_at0]; rfl
  have hM : hget (σ ++ [(AObj.cells [.int .i64 e.slack, .list .no 2 (e.tones.map Rng.av), .list .no 6 (e.rds.map Rd.av)]), (AObj.cells [.int .i64 m1, .int .i64 m2, .int .i64 m3, .int .i64 m4, .int .i64 m5, .int .i64 m6])]) (σ.length + 1) = some (AObj.cells [.int .i64 m1, .int .i64 m2, .int .i64 m3, .int .i64 m4, .int .i64 m5, .int .i64 m6]) := by rw [hget_at]; rfl
  generalize σ ++ [(AObj.cells [.int .i64 e.slack, .list .no 2 (e.tones.map Rng.av), .list .no 6 (e.rds.map Rd.av)]), (AObj.cells [.int .i64 m1, .int .i64 m2, .int .i64 m3, .int .i64 m4, .int .i64 m5, .int .i64 m6])] = σ0 at hE hM ⊢
  generalize σ.length + 1 = qm at hM ⊢
  generalize σ.length = qe at hE ⊢
  have hlE := hget_lt hE
  have hlM := hget_lt hM
  refine newPot_c nums .no hl _ _ fun s0 junk0 => ?_
  have hp : PotAt (σ0 ++ (.cells [.int .u64 s0] :: junk0)) σ0.length := ⟨s0, by rw [hget_at0]; rfl⟩
  replace hE : hget (σ0 ++ (.cells [.int .u64 s0] :: junk0)) qe = some (AObj.cells [.int .i64 e.slack, .list .no 2 (e.tones.map Rng.av), .list .no 6 (e.rds.map Rd.av)]) := by rw [hget_app hlE]; exact hE
  replace hM : hget (σ0 ++ (.cells [.int .u64 s0] :: junk0)) qm = some (AObj.cells [.int .i64 m1, .int .i64 m2, .int .i64 m3, .int .i64 m4, .int .i64 m5, .int .i64 m6]) := by rw [hget_app hlM]; exact hM
  have hrE : qe ≠ σ0.length := by omega
  have hrM : qm ≠ σ0.length := by omega
  generalize σ0 ++ (.cells [.int .u64 s0] :: junk0) = σ1 at hp hE hM ⊢
  generalize σ0.length = r at hp hrE hrM ⊢
  clear hlE hlM
  simp -implicitDefEqProofs (maxSteps := 2000000) (disch := omega) only [go_sem, reduceCtorEq, Nat.reduceAdd, Nat.reduceSub, Nat.reduceMul, Nat.reduceLT, Nat.reduceLeDiff, Nat.reduceEqDiff, Nat.reduceBEq, Int.reduceToNat, Int.reduceLT, Int.reduceLE, Int.reduceEq, Int.reduceNeg, Int.reduceAdd, Int.reduceSub, Int.reduceMul, ↓reduceIte, Int.reduceBEq, Int.reduceBNe]
  refine earOf_c r 3 3 6 (by omega) (by omega) (by omega) _ hp _ fun s1 m T junk1 hT => ?_
  replace hE : hget (pw σ1 r s1 ++ junk1) qe = some (AObj.cells [.int .i64 e.slack, .list .no 2 (e.tones.map Rng.av), .list .no 6 (e.rds.map Rd.av)]) := hgetT_pwa hE hrE
  replace hM : hget (pw σ1 r s1 ++ junk1) qm = some (AObj.cells [.int .i64 m1, .int .i64 m2, .int .i64 m3, .int .i64 m4, .int .i64 m5, .int .i64 m6]) := hgetT_pwa hM hrM
  replace hp : PotAt (pw σ1 r s1 ++ junk1) r := (hp.pw s1).app
  generalize pw σ1 r s1 ++ junk1 = σ2 at hE hM hp ⊢
  obtain ⟨sl, ts, rs⟩ := m
  have hT3 := hT.hi
  have hlen := hT.len
  have hrs := hT.rn
  simp only at hlen hrs
  have hts3 : ts.length ≤ 4294967296 := by omega
  have hrs3 : rs.length ≤ 100 := by omega
  clear hT hrs hlen hT3
  simp only [Ear.av]
  have hEq : ∀ l, hget (σ2 ++ l) qe = some (AObj.cells [.int .i64 e.slack, .list .no 2 (e.tones.map Rng.av), .list .no 6 (e.rds.map Rd.av)]) := fun l => by rw [hget_app (hget_lt hE)]; exact hE
  have hMq : ∀ l, hget (σ2 ++ l) qm = some (AObj.cells [.int .i64 m1, .int .i64 m2, .int .i64 m3, .int .i64 m4, .int .i64 m5, .int .i64 m6]) := fun l => by rw [hget_app (hget_lt hM)]; exact hM
  have hEp : ∀ s l, hget (pw σ2 r s ++ l) qe = some (AObj.cells [.int .i64 e.slack, .list .no 2 (e.tones.map Rng.av), .list .no 6 (e.rds.map Rd.av)]) := fun s l => hgetT_pwa hE hrE
  have hr := hp.lt
  have hpp : ∀ s l, PotAt (pw σ2 r s ++ l) r := fun s l => (hp.pw s).app
  clear hE hM
  simp -implicitDefEqProofs (maxSteps := 2000000) (disch := omega) only [go_sem, reduceCtorEq, Nat.reduceAdd, Nat.reduceSub, Nat.reduceMul, Nat.reduceLT, Nat.reduceLeDiff, Nat.reduceEqDiff, Nat.reduceBEq, Int.reduceToNat, Int.reduceLT, Int.reduceLE, Int.reduceEq, Int.reduceNeg, Int.reduceAdd, Int.reduceSub, Int.reduceMul, ↓reduceIte, Int.reduceBEq, Int.reduceBNe, hEq, hMq]
  refine copyEar_c ⟨sl, ts, rs⟩ hts3 (by simp only; omega) _ _ fun x1 x2 => ?_
  simp only [List.append_assoc, List.cons_append, List.nil_append, List.length_append, List.length_cons, List.length_nil, Nat.zero_add, Nat.reduceAdd, Nat.add_assoc]
  simp -implicitDefEqProofs (maxSteps := 2000000) (disch := omega) only [go_sem, reduceCtorEq, Nat.reduceAdd, Nat.reduceSub, Nat.reduceMul, Nat.reduceLT, Nat.reduceLeDiff, Nat.reduceEqDiff, Nat.reduceBEq, Int.reduceToNat, Int.reduceLT, Int.reduceLE, Int.reduceEq, Int.reduceNeg, Int.reduceAdd, Int.reduceSub, Int.reduceMul, ↓reduceIte, Int.reduceBEq, Int.reduceBNe, hEq, hMq]
  refine upto_c r 2 (by omega) _ hp.app _ fun s2 a1 n1 n2 => ?_
  clear n1 n2
  rw [pw_app hr]
  simp -implicitDefEqProofs (maxSteps := 2000000) (disch := omega) only [go_sem, reduceCtorEq, Nat.reduceAdd, Nat.reduceSub, Nat.reduceMul, Nat.reduceLT, Nat.reduceLeDiff, Nat.reduceEqDiff, Nat.reduceBEq, Int.reduceToNat, Int.reduceLT, Int.reduceLE, Int.reduceEq, Int.reduceNeg, Int.reduceAdd, Int.reduceSub, Int.reduceMul, ↓reduceIte, Int.reduceBEq, Int.reduceBNe, hEq, hMq, hEp, length_pw, hget_pw0, hget_pw, hset_pw0, hset_pw]
  refine upto_c r 2 (by omega) _ (hpp _ _) _ fun s3 a2 n1 n2 => ?_
  clear n1 n2
  rw [pw_pwa hr]
  simp -implicitDefEqProofs (maxSteps := 2000000) (disch := omega) only [go_sem, reduceCtorEq, Nat.reduceAdd, Nat.reduceSub, Nat.reduceMul, Nat.reduceLT, Nat.reduceLeDiff, Nat.reduceEqDiff, Nat.reduceBEq, Int.reduceToNat, Int.reduceLT, Int.reduceLE, Int.reduceEq, Int.reduceNeg, Int.reduceAdd, Int.reduceSub, Int.reduceMul, ↓reduceIte, Int.reduceBEq, Int.reduceBNe, hEq, hMq, hEp, length_pw, hget_pw0, hget_pw, hset_pw0, hset_pw]
  have hEL : ∀ i : Nat, i < 4 → ∃ (z : Ear) (tk : Tok), idx [AV.agg [.int .i64 e.slack, .list .no 2 (e.tones.map Rng.av), .list .no 6 (e.rds.map Rd.av)], AV.agg [.int .i64 sl, .list .no 2 (ts.map Rng.av), .list .no 6 (rs.map Rd.av)], AV.agg [.int .i64 sl, .list .no 2 (ts.map Rng.av), .list (.own (σ2.length + 3)) 6 (rs.map Rd.av ++ [AV.agg [.int .i64 m1, .int .i64 m2, .int .i64 m3, .int .i64 m4, .int .i64 m5, .int .i64 m6]])], AV.agg [.int .i64 sl, .list .no 2 (ts.map Rng.av), .list .no 6 (rs.map Rd.av)]] (i : Int)
      = some (.agg [.int .i64 z.slack, .list .no 2 (z.tones.map Rng.av), .list tk 6 (z.rds.map Rd.av)]) ∧ z.tones.length ≤ 4294967296 ∧ z.rds.length ≤ 4294967296 := fun i hi => by
    rcases (by omega : i = 0 ∨ i = 1 ∨ i = 2 ∨ i = 3) with rfl | rfl | rfl | rfl
    · exact ⟨e, .no, rfl, h1, h2⟩
    · exact ⟨⟨sl, ts, rs⟩, .no, rfl, hts3, by simp only; omega⟩
    · exact ⟨⟨sl, ts, rs ++ [⟨m1, m2, m3, m4, ⟨m5, m6⟩⟩]⟩, .own (σ2.length + 3), by simp [Rd.av]; rfl, hts3, by simp only [List.length_append, List.length_singleton]; omega⟩
    · exact ⟨⟨sl, ts, rs⟩, .no, rfl, hts3, by simp only; omega⟩
  have hIL : ∀ i : Nat, i < 4 → ∃ z : Int, idx [AV.int .i64 x, .int .i64 a1, .int .i64 a2, .int .i64 x] (i : Int) = some (.int .i64 z) := fun i hi => by
    rcases (by omega : i = 0 ∨ i = 1 ∨ i = 2 ∨ i = 3) with rfl | rfl | rfl | rfl <;> exact ⟨_, rfl⟩
  generalize hE4 : [AV.agg [.int .i64 e.slack, .list .no 2 (e.tones.map Rng.av), .list .no 6 (e.rds.map Rd.av)], AV.agg [.int .i64 sl, .list .no 2 (ts.map Rng.av), .list .no 6 (rs.map Rd.av)], AV.agg [.int .i64 sl, .list .no 2 (ts.map Rng.av), .list (.own (σ2.length + 3)) 6 (rs.map Rd.av ++ [AV.agg [.int .i64 m1, .int .i64 m2, .int .i64 m3, .int .i64 m4, .int .i64 m5, .int .i64 m6]])], AV.agg [.int .i64 sl, .list .no 2 (ts.map Rng.av), .list .no 6 (rs.map Rd.av)]] = E4 at hEL ⊢
  have hl4 : E4.length = 4 := by rw [← hE4]; rfl
  generalize [AV.int .i64 x, .int .i64 a1, .int .i64 a2, .int .i64 x] = I4 at hIL ⊢
  clear hE4 hEq hMq hEp hpp hp hr hrE hrM hts3 hrs3 hl h1 h2
  generalize pw σ2 r s3 ++ (_ :: _ :: _ :: _ :: _ :: []) = τ
  refine ARun.forS (Tryz.envOK 167 Tryz.ord3 fs72 fs72_ok) 4 (fun _ => True) (fun i => [(15, .int .i64 i)]) (fun _ j => τ ++ j) [] (by kernel_rfl) (by simp) (by simp [upd, ins, subF, lookA]) trivial ?_ ?_
  · intro i j hi _ ih
    obtain ⟨⟨xs, xt, xr⟩, tk, hx, hx1, hx2⟩ := hEL i hi
    obtain ⟨z, hz⟩ := hIL i hi
    simp only at hx hx1 hx2
    clear hEL hIL
    simp -implicitDefEqProofs (maxSteps := 2000000) (disch := omega) only [go_sem, reduceCtorEq, Nat.reduceAdd, Nat.reduceSub, Nat.reduceMul, Nat.reduceLT, Nat.reduceLeDiff, Nat.reduceEqDiff, Nat.reduceBEq, Int.reduceToNat, Int.reduceLT, Int.reduceLE, Int.reduceEq, Int.reduceNeg, Int.reduceAdd, Int.reduceSub, Int.reduceMul, ↓reduceIte, Int.reduceBEq, Int.reduceBNe, hl4, hx, hz]
    refine ACalls.weaken (l := [.agg [.int .i64 xs, .list .no 2 (xt.map Rng.av), .list tk 6 (xr.map Rd.av)]]) (l' := [(⟨xs, xt, xr⟩ : Ear).av]) (by simp [wkL, wk, wk1, wk0, Ear.av]) (copyEar_c ⟨xs, xt, xr⟩ hx1 hx2 _ _ fun y1 y2 => ?_)
    simp only [List.append_assoc, List.cons_append, List.nil_append, List.length_append, List.length_cons, List.length_nil, Nat.zero_add, Nat.reduceAdd, Nat.add_assoc]
    obtain ⟨k1, n1, hf⟩ : ∃ l n, truthsN ⟨xs, xt, xr⟩ = (l, n) := ⟨_, _, rfl⟩
    obtain ⟨l2, n2, hd⟩ : ∃ l n, tonesL ⟨xs, xt, xr⟩ = (l, n) := ⟨_, _, rfl⟩
    obtain ⟨l3, n3, hg⟩ : ∃ l n, valuesL ⟨xs, xt, xr⟩ z = (l, n) := ⟨_, _, rfl⟩
    obtain ⟨c, hc⟩ : ∃ c, ck ⟨xs, xt, xr⟩ = c := ⟨_, rfl⟩
    have hb1 : l2.length ≤ 4294967296 := by have := tonesL_len ⟨xs, xt, xr⟩ hx1; rw [hd] at this; exact this
    have hb2 : l3.length ≤ 4294967296 := by have := valuesL_len ⟨xs, xt, xr⟩ z; rw [hg] at this; exact this
    simp -implicitDefEqProofs (maxSteps := 2000000) (disch := omega) only [go_sem, reduceCtorEq, Nat.reduceAdd, Nat.reduceSub, Nat.reduceMul, Nat.reduceLT, Nat.reduceLeDiff, Nat.reduceEqDiff, Nat.reduceBEq, Int.reduceToNat, Int.reduceLT, Int.reduceLE, Int.reduceEq, Int.reduceNeg, Int.reduceAdd, Int.reduceSub, Int.reduceMul, ↓reduceIte, Int.reduceBEq, Int.reduceBNe, hl4, hx, hz, hf, hd, hg, hc]
    exact (ih trivial (j ++ [y1, y2, .tail xr.length 6, .cells [.int .i64 xs, .list .no 2 (xt.map Rng.av), .list (.own (τ.length + (j.length + 2))) 6 (xr.map Rd.av)]])).castS (by simp) (by simp [upd, ins, subF, lookA])
  · intro j _
    simp -implicitDefEqProofs (maxSteps := 2000000) (disch := omega) only [go_sem, reduceCtorEq, Nat.reduceAdd, Nat.reduceSub, Nat.reduceMul, Nat.reduceLT, Nat.reduceLeDiff, Nat.reduceEqDiff, Nat.reduceBEq, Int.reduceToNat, Int.reduceLT, Int.reduceLE, Int.reduceEq, Int.reduceNeg, Int.reduceAdd, Int.reduceSub, Int.reduceMul, ↓reduceIte, Int.reduceBEq, Int.reduceBNe, hl4]
end Go.Proofs
