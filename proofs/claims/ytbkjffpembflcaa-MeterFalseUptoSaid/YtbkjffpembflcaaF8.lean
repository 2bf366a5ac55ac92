/- Texts of a proof: lemmas. -/
import Derived.Test.YtbkjffpembflcaaFA
import Derived.Test.YtbkjffpembflcaaDA
set_option linter.unusedSimpArgs false
set_option linter.unusedVariables false
set_option maxRecDepth 100000
namespace Go.Proofs
open Go Go.Mu

theorem falseL_len (e : Ear) : (falseL e).1.length ≤ 6 := by
  unfold falseL
  by_cases hc : ck e = 0
  · rw [if_pos hc]
    have hpos : 0 < (fewL e).length := List.length_pos_iff.2 (fewL_ne hc)
    obtain ⟨k, hk1, hk2⟩ := fewL_mem hc
    have := ck_rn hc
    simp only
    rw [head_get hpos, (comb_mem (hk2 _ (List.getElem_mem hpos))).1]
    omega
  · rw [if_neg hc]; simp
theorem doubtL_len (e : Ear) : (doubtL e).1.length ≤ 6 := by
  unfold doubtL
  by_cases hc : ck e = 0
  · rw [if_pos hc]
    have := ck_rn hc
    simpa using this
  · rw [if_neg hc]; simp
def fs40 (f : FuncId) (xs : List AV) : Option AV := if f = 14 then crowd_s xs else if f = 27 then sameEars_s xs else if f = 28 then sameInts_s xs else if f = 54 then false_s xs else if f = 56 then doubt_s xs else if f = 55 then rfalse_s xs else if f = 57 then rdoubt_s xs else fs21 f xs
theorem fs40_ok : ∀ f xs v, fs40 f xs = some v → PureV Try.prog f xs v := by
  intro f xs v h
  unfold fs40 at h
  split at h
  · rename_i e; subst e; exact crowd_ok _ _ h
  split at h
  · rename_i e; subst e; exact sameEars_ok _ _ h
  split at h
  · rename_i e; subst e; exact sameInts_ok _ _ h
  split at h
  · rename_i e; subst e; exact false_ok _ _ h
  split at h
  · rename_i e; subst e; exact doubt_ok _ _ h
  split at h
  · rename_i e; subst e; exact rfalse_ok _ _ h
  split at h
  · rename_i e; subst e; exact rdoubt_ok _ _ h
  exact fs21_ok _ _ _ h
attribute [go_sem] fs40 crowd_s sameEars_s sameInts_s false_s doubt_s rfalse_s rdoubt_s
set_option maxHeartbeats 4000000 in
theorem meterFalse_c (e : Ear) (more also : Rd) (nums : List Int) (h1 : e.tones.length ≤ 4294967296) (h2 : e.rds.length ≤ 4294967296) (hl : nums.length ≤ 4294967296) (σ : List AObj) :
    ACalls Try.prog 11 [e.av, more.av, also.av, .list .no 1 (nums.map (.int .i64))] σ (fun v _ => v = .bool true) := by
  refine ACalls.of_ev (E := Try.E 121 Try.ord11 fs40) (Try.envOK 121 Try.ord11 fs40 fs40_ok) Try.kp11 Try.func11 rfl (by kernel_rfl) (by simp [Try.E]) (Callable.of Try.func11 (by kernel_rfl) (by kernel_rfl)) (by kernel_rfl) ?_
  obtain ⟨m1, m2, m3, m4, ⟨m5, m6⟩⟩ := more
  obtain ⟨a1, a2, a3, a4, ⟨a5, a6⟩⟩ := also
  simp only [Ear.av, Rd.av]
  obtain ⟨cb, hcb⟩ : ∃ b, crowdB ⟨e.slack, e.tones, e.rds⟩ 1000 = b := ⟨_, rfl⟩
  cases cb
  case true => simp -implicitDefEqProofs (maxSteps := 2000000) (disch := omega) only [go_sem, reduceCtorEq, Nat.reduceAdd, Nat.reduceSub, Nat.reduceMul, Nat.reduceLT, Nat.reduceLeDiff, Nat.reduceEqDiff, Nat.reduceBEq, Int.reduceToNat, Int.reduceLT, Int.reduceLE, Int.reduceEq, Int.reduceNeg, Int.reduceAdd, Int.reduceSub, Int.reduceMul, ↓reduceIte, Int.reduceBEq, Int.reduceBNe, hcb]
  simp -implicitDefEqProofs (maxSteps := 2000000) (disch := omega) only [go_sem, reduceCtorEq, Nat.reduceAdd, Nat.reduceSub, Nat.reduceMul, Nat.reduceLT, Nat.reduceLeDiff, Nat.reduceEqDiff, Nat.reduceBEq, Int.reduceToNat, Int.reduceLT, Int.reduceLE, Int.reduceEq, Int.reduceNeg, Int.reduceAdd, Int.reduceSub, Int.reduceMul, ↓reduceIte, Int.reduceBEq, Int.reduceBNe, hcb]
  clear hcb
  have hE : hget (σ ++ [((.cells [.int .i64 e.slack, .list .no 2 (e.tones.map Rng.av), .list .no 6 (e.rds.map Rd.av)]) : AObj), (.cells [.int .i64 m1, .int .i64 m2, .int .i64 m3, .int .i64 m4, .int .i64 m5, .int .i64 m6]), (.cells [.int .i64 a1, .int .i64 a2, .int .i64 a3, .int .i64 a4, .int .i64 a5, .int .i64 a6])]) σ.length = some (.cells [.int .i64 e.slack, .list .no 2 (e.tones.map Rng.av), .list .no 6 (e.rds.map Rd.av)]) := by rw [hget_at0]; rfl
  have hM : hget (σ ++ [((.cells [.int .i64 e.slack, .list .no 2 (e.tones.map Rng.av), .list .no 6 (e.rds.map Rd.av)]) : AObj), (.cells [.int .i64 m1, .int .i64 m2, .int .i64 m3, .int .i64 m4, .int .i64 m5, .int .i64 m6]), (.cells [.int .i64 a1, .int .i64 a2, .int .i64 a3, .int .i64 a4, .int .i64 a5, .int .i64 a6])]) (σ.length + 1) = some (.cells [.int .i64 m1, .int .i64 m2, .int .i64 m3, .int .i64 m4, .int .i64 m5, .int .i64 m6]) := by rw [hget_at]; rfl
  have hA : hget (σ ++ [((.cells [.int .i64 e.slack, .list .no 2 (e.tones.map Rng.av), .list .no 6 (e.rds.map Rd.av)]) : AObj), (.cells [.int .i64 m1, .int .i64 m2, .int .i64 m3, .int .i64 m4, .int .i64 m5, .int .i64 m6]), (.cells [.int .i64 a1, .int .i64 a2, .int .i64 a3, .int .i64 a4, .int .i64 a5, .int .i64 a6])]) (σ.length + 2) = some (.cells [.int .i64 a1, .int .i64 a2, .int .i64 a3, .int .i64 a4, .int .i64 a5, .int .i64 a6]) := by rw [hget_at]; rfl
  generalize σ ++ [((.cells [.int .i64 e.slack, .list .no 2 (e.tones.map Rng.av), .list .no 6 (e.rds.map Rd.av)]) : AObj), (.cells [.int .i64 m1, .int .i64 m2, .int .i64 m3, .int .i64 m4, .int .i64 m5, .int .i64 m6]), (.cells [.int .i64 a1, .int .i64 a2, .int .i64 a3, .int .i64 a4, .int .i64 a5, .int .i64 a6])] = σ0 at hE hM hA ⊢
  generalize σ.length + 1 = qm at hM ⊢
  generalize σ.length + 2 = qa at hA ⊢
  generalize σ.length = qe at hE ⊢
  have hlE := hget_lt hE
  have hlM := hget_lt hM
  have hlA := hget_lt hA
  refine newPot_c nums .no hl _ _ fun s0 junk0 => ?_
  have hp : PotAt (σ0 ++ (.cells [.int .u64 s0] :: junk0)) σ0.length := ⟨s0, by rw [hget_at0]; rfl⟩
  replace hE : hget (σ0 ++ (.cells [.int .u64 s0] :: junk0)) qe = some (.cells [.int .i64 e.slack, .list .no 2 (e.tones.map Rng.av), .list .no 6 (e.rds.map Rd.av)]) := by rw [hget_app hlE]; exact hE
  replace hM : hget (σ0 ++ (.cells [.int .u64 s0] :: junk0)) qm = some (.cells [.int .i64 m1, .int .i64 m2, .int .i64 m3, .int .i64 m4, .int .i64 m5, .int .i64 m6]) := by rw [hget_app hlM]; exact hM
  replace hA : hget (σ0 ++ (.cells [.int .u64 s0] :: junk0)) qa = some (.cells [.int .i64 a1, .int .i64 a2, .int .i64 a3, .int .i64 a4, .int .i64 a5, .int .i64 a6]) := by rw [hget_app hlA]; exact hA
  have hrE : qe ≠ σ0.length := by omega
  have hrM : qm ≠ σ0.length := by omega
  have hrA : qa ≠ σ0.length := by omega
  generalize σ0 ++ (.cells [.int .u64 s0] :: junk0) = σ1 at hp hE hM hA ⊢
  generalize σ0.length = r at hp hrE hrM hrA ⊢
  clear hlE hlM hlA
  simp -implicitDefEqProofs (maxSteps := 2000000) (disch := omega) only [go_sem, reduceCtorEq, Nat.reduceAdd, Nat.reduceSub, Nat.reduceMul, Nat.reduceLT, Nat.reduceLeDiff, Nat.reduceEqDiff, Nat.reduceBEq, Int.reduceToNat, Int.reduceLT, Int.reduceLE, Int.reduceEq, Int.reduceNeg, Int.reduceAdd, Int.reduceSub, Int.reduceMul, ↓reduceIte, Int.reduceBEq, Int.reduceBNe]
  refine earOf_c r 3 3 3 (by omega) (by omega) (by omega) _ hp _ fun s1 m T junk1 hT => ?_
  replace hE : hget (pw σ1 r s1 ++ junk1) qe = some (.cells [.int .i64 e.slack, .list .no 2 (e.tones.map Rng.av), .list .no 6 (e.rds.map Rd.av)]) := hget_pwa hE hrE
  replace hM : hget (pw σ1 r s1 ++ junk1) qm = some (.cells [.int .i64 m1, .int .i64 m2, .int .i64 m3, .int .i64 m4, .int .i64 m5, .int .i64 m6]) := hget_pwa hM hrM
  replace hA : hget (pw σ1 r s1 ++ junk1) qa = some (.cells [.int .i64 a1, .int .i64 a2, .int .i64 a3, .int .i64 a4, .int .i64 a5, .int .i64 a6]) := hget_pwa hA hrA
  generalize pw σ1 r s1 ++ junk1 = σ2 at hE hM hA ⊢
  clear hp hrE hrM hrA
  obtain ⟨sl, ts, rs⟩ := m
  have hT3 := hT.hi
  have hlen := hT.len
  have hrs := hT.rn
  simp only at hlen hrs
  have hts3 : ts.length ≤ 4294967296 := by omega
  have hrs3 : rs.length ≤ 100 := by omega
  clear hT hrs hlen hT3
  simp only [Ear.av]
  have hEq : ∀ l, hget (σ2 ++ l) qe = some (.cells [.int .i64 e.slack, .list .no 2 (e.tones.map Rng.av), .list .no 6 (e.rds.map Rd.av)]) := fun l => by rw [hget_app (hget_lt hE)]; exact hE
  have hMq : ∀ l, hget (σ2 ++ l) qm = some (.cells [.int .i64 m1, .int .i64 m2, .int .i64 m3, .int .i64 m4, .int .i64 m5, .int .i64 m6]) := fun l => by rw [hget_app (hget_lt hM)]; exact hM
  have hAq : ∀ l, hget (σ2 ++ l) qa = some (.cells [.int .i64 a1, .int .i64 a2, .int .i64 a3, .int .i64 a4, .int .i64 a5, .int .i64 a6]) := fun l => by rw [hget_app (hget_lt hA)]; exact hA
  clear hE hM hA
  simp -implicitDefEqProofs (maxSteps := 2000000) (disch := omega) only [go_sem, reduceCtorEq, Nat.reduceAdd, Nat.reduceSub, Nat.reduceMul, Nat.reduceLT, Nat.reduceLeDiff, Nat.reduceEqDiff, Nat.reduceBEq, Int.reduceToNat, Int.reduceLT, Int.reduceLE, Int.reduceEq, Int.reduceNeg, Int.reduceAdd, Int.reduceSub, Int.reduceMul, ↓reduceIte, Int.reduceBEq, Int.reduceBNe, hEq, hMq, hAq]
  refine copyEar_c ⟨sl, ts, rs⟩ hts3 (by simp only; omega) _ _ fun x1 x2 => ?_
  simp only [List.append_assoc, List.cons_append, List.nil_append, List.length_append, List.length_cons, List.length_nil, Nat.zero_add, Nat.reduceAdd, Nat.add_assoc]
  simp -implicitDefEqProofs (maxSteps := 2000000) (disch := omega) only [go_sem, reduceCtorEq, Nat.reduceAdd, Nat.reduceSub, Nat.reduceMul, Nat.reduceLT, Nat.reduceLeDiff, Nat.reduceEqDiff, Nat.reduceBEq, Int.reduceToNat, Int.reduceLT, Int.reduceLE, Int.reduceEq, Int.reduceNeg, Int.reduceAdd, Int.reduceSub, Int.reduceMul, ↓reduceIte, Int.reduceBEq, Int.reduceBNe, hEq, hMq, hAq]
  refine ACalls.weaken (l' := [(⟨sl, ts, rs ++ [⟨m1, m2, m3, m4, ⟨m5, m6⟩⟩]⟩ : Ear).av]) (by simp [wkL, wk, wk1, wk0, Ear.av, Rd.av]) (copyEar_c ⟨sl, ts, rs ++ [⟨m1, m2, m3, m4, ⟨m5, m6⟩⟩]⟩ hts3 (by simp only [List.length_append, List.length_singleton]; omega) _ _ fun x3 x4 => ?_)
  simp only [List.append_assoc, List.cons_append, List.nil_append, List.length_append, List.length_cons, List.length_nil, Nat.zero_add, Nat.reduceAdd, Nat.add_assoc]
  simp -implicitDefEqProofs (maxSteps := 2000000) (disch := omega) only [go_sem, reduceCtorEq, Nat.reduceAdd, Nat.reduceSub, Nat.reduceMul, Nat.reduceLT, Nat.reduceLeDiff, Nat.reduceEqDiff, Nat.reduceBEq, Int.reduceToNat, Int.reduceLT, Int.reduceLE, Int.reduceEq, Int.reduceNeg, Int.reduceAdd, Int.reduceSub, Int.reduceMul, ↓reduceIte, Int.reduceBEq, Int.reduceBNe, hEq, hMq, hAq]
  have hEL : ∀ i : Nat, i < 4 → ∃ (x : Ear) (tk : Tok), idx [AV.agg [.int .i64 e.slack, .list .no 2 (e.tones.map Rng.av), .list .no 6 (e.rds.map Rd.av)], .agg [.int .i64 sl, .list .no 2 (ts.map Rng.av), .list .no 6 (rs.map Rd.av)],
      .agg [.int .i64 sl, .list .no 2 (ts.map Rng.av), .list (.own (σ2.length + 3)) 6 (rs.map Rd.av ++ [.agg [.int .i64 m1, .int .i64 m2, .int .i64 m3, .int .i64 m4, .int .i64 m5, .int .i64 m6]])],
      .agg [.int .i64 sl, .list .no 2 (ts.map Rng.av), .list (.own (σ2.length + 7)) 6 ((rs ++ [(⟨m1, m2, m3, m4, ⟨m5, m6⟩⟩ : Rd)]).map Rd.av ++ [.agg [.int .i64 a1, .int .i64 a2, .int .i64 a3, .int .i64 a4, .int .i64 a5, .int .i64 a6]])]] (i : Int)
      = some (.agg [.int .i64 x.slack, .list .no 2 (x.tones.map Rng.av), .list tk 6 (x.rds.map Rd.av)]) ∧ x.tones.length ≤ 4294967296 ∧ x.rds.length ≤ 4294967296 := fun i hi => by
    rcases (by omega : i = 0 ∨ i = 1 ∨ i = 2 ∨ i = 3) with rfl | rfl | rfl | rfl
    · exact ⟨e, .no, rfl, h1, h2⟩
    · exact ⟨⟨sl, ts, rs⟩, .no, rfl, hts3, by simp only; omega⟩
    · exact ⟨⟨sl, ts, rs ++ [⟨m1, m2, m3, m4, ⟨m5, m6⟩⟩]⟩, .own (σ2.length + 3), by simp [Rd.av]; rfl, hts3, by simp only [List.length_append, List.length_singleton]; omega⟩
    · exact ⟨⟨sl, ts, (rs ++ [⟨m1, m2, m3, m4, ⟨m5, m6⟩⟩]) ++ [⟨a1, a2, a3, a4, ⟨a5, a6⟩⟩]⟩, .own (σ2.length + 7), by simp [Rd.av]; rfl, hts3, by simp only [List.length_append, List.length_singleton]; omega⟩
  generalize hE4 : [AV.agg [.int .i64 e.slack, .list .no 2 (e.tones.map Rng.av), .list .no 6 (e.rds.map Rd.av)], .agg [.int .i64 sl, .list .no 2 (ts.map Rng.av), .list .no 6 (rs.map Rd.av)],
      .agg [.int .i64 sl, .list .no 2 (ts.map Rng.av), .list (.own (σ2.length + 3)) 6 (rs.map Rd.av ++ [.agg [.int .i64 m1, .int .i64 m2, .int .i64 m3, .int .i64 m4, .int .i64 m5, .int .i64 m6]])],
      .agg [.int .i64 sl, .list .no 2 (ts.map Rng.av), .list (.own (σ2.length + 7)) 6 ((rs ++ [(⟨m1, m2, m3, m4, ⟨m5, m6⟩⟩ : Rd)]).map Rd.av ++ [.agg [.int .i64 a1, .int .i64 a2, .int .i64 a3, .int .i64 a4, .int .i64 a5, .int .i64 a6]])]] = E4 at hEL ⊢
  have hl4 : E4.length = 4 := by rw [← hE4]; rfl
  clear hE4 hEq hMq hAq hts3 hrs3 hl h1 h2
  generalize σ2 ++ (_ :: _ :: _ :: _ :: _ :: _ :: _ :: _ :: _ :: []) = τ
  refine ARun.forS (Try.envOK 121 Try.ord11 fs40 fs40_ok) 4 (fun _ => True) (fun i => [(14, .int .i64 i)]) (fun _ j => τ ++ j) [] (by kernel_rfl) (by simp) (by simp [upd, ins, subF, lookA]) trivial ?_ ?_
  · intro i j hi _ ih
    obtain ⟨⟨xs, xt, xr⟩, tk, hx, hx1, hx2⟩ := hEL i hi
    simp only at hx hx1 hx2
    clear hEL
    simp -implicitDefEqProofs (maxSteps := 2000000) (disch := omega) only [go_sem, reduceCtorEq, Nat.reduceAdd, Nat.reduceSub, Nat.reduceMul, Nat.reduceLT, Nat.reduceLeDiff, Nat.reduceEqDiff, Nat.reduceBEq, Int.reduceToNat, Int.reduceLT, Int.reduceLE, Int.reduceEq, Int.reduceNeg, Int.reduceAdd, Int.reduceSub, Int.reduceMul, ↓reduceIte, Int.reduceBEq, Int.reduceBNe, hl4, hx]
    refine ACalls.weaken (l := [.agg [.int .i64 xs, .list .no 2 (xt.map Rng.av), .list tk 6 (xr.map Rd.av)]]) (l' := [(⟨xs, xt, xr⟩ : Ear).av]) (by simp [wkL, wk, wk1, wk0, Ear.av]) (copyEar_c ⟨xs, xt, xr⟩ hx1 hx2 _ _ fun y1 y2 => ?_)
    simp only [List.append_assoc, List.cons_append, List.nil_append, List.length_append, List.length_cons, List.length_nil, Nat.zero_add, Nat.reduceAdd, Nat.add_assoc]
    obtain ⟨l1, n1, hf⟩ : ∃ l n, falseL ⟨xs, xt, xr⟩ = (l, n) := ⟨_, _, rfl⟩
    obtain ⟨l2, n2, hd⟩ : ∃ l n, doubtL ⟨xs, xt, xr⟩ = (l, n) := ⟨_, _, rfl⟩
    have hb1 : l1.length ≤ 4294967296 := by have := falseL_len ⟨xs, xt, xr⟩; rw [hf] at this; simp only at this; omega
    have hb2 : l2.length ≤ 4294967296 := by have := doubtL_len ⟨xs, xt, xr⟩; rw [hd] at this; simp only at this; omega
    simp -implicitDefEqProofs (maxSteps := 2000000) (disch := omega) only [go_sem, reduceCtorEq, Nat.reduceAdd, Nat.reduceSub, Nat.reduceMul, Nat.reduceLT, Nat.reduceLeDiff, Nat.reduceEqDiff, Nat.reduceBEq, Int.reduceToNat, Int.reduceLT, Int.reduceLE, Int.reduceEq, Int.reduceNeg, Int.reduceAdd, Int.reduceSub, Int.reduceMul, ↓reduceIte, Int.reduceBEq, Int.reduceBNe, hl4, hx, hf, hd]
    exact (ih trivial (j ++ [y1, y2, .tail xr.length 6, .cells [.int .i64 xs, .list .no 2 (xt.map Rng.av), .list (.own (τ.length + (j.length + 2))) 6 (xr.map Rd.av)]])).castS (by simp) (by simp [upd, ins, subF, lookA])
  · intro j _
    simp -implicitDefEqProofs (maxSteps := 2000000) (disch := omega) only [go_sem, reduceCtorEq, Nat.reduceAdd, Nat.reduceSub, Nat.reduceMul, Nat.reduceLT, Nat.reduceLeDiff, Nat.reduceEqDiff, Nat.reduceBEq, Int.reduceToNat, Int.reduceLT, Int.reduceLE, Int.reduceEq, Int.reduceNeg, Int.reduceAdd, Int.reduceSub, Int.reduceMul, ↓reduceIte, Int.reduceBEq, Int.reduceBNe, hl4]
end Go.Proofs
