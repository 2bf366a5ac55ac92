/- Texts of a proof: lemmas. -/
import Derived.Test.YtbkjffpembflcaaAJ
set_option linter.unusedSimpArgs false
set_option linter.unusedVariables false
set_option maxRecDepth 100000
namespace Go.Proofs
open Go Go.Mu

/-- How many truths a reading leaves in its worst outcome. -/
def worstOf (e : Ear) (r : Rd) : Int × Int := if (askL e (ckR r e.tones.length)).2 = 0 then (worstL r e.slack (truthsL e), 0) else (0, (askL e (ckR r e.tones.length)).2)
theorem worst_m (e : Ear) (r : Rd) (h1 : e.tones.length ≤ 4294967296) (h2 : e.rds.length ≤ 4294967296) : PureV Try.prog 37 [e.av, r.av] (.tup [.int .i64 (worstOf e r).1, .int .i64 (worstOf e r).2]) := by
  refine PureV.of_ev (E := Try.E 33 Try.ord37 fs18) (Try.envOK 33 Try.ord37 fs18 fs18_ok) (ii_plain) Try.kp37 Try.func37 rfl (by kernel_rfl) (by simp [Try.E]) (Callable.of Try.func37 (by kernel_rfl) (by kernel_rfl)) (by kernel_rfl) ?_
  intro σ
  simp only [Ear.av]
  by_cases hc : ck e = 0
  · by_cases hk : (askL e (ckR r e.tones.length)).2 = 0
    · obtain ⟨_, hw, hn, hke⟩ := askL_ok hk
      have he := okE_of_ck hc
      have hlen := he.len
      have htl := truthsL_len he
      have hr := okR_of_ck hlen hw
      have hke' : askL ⟨e.slack, e.tones, e.rds⟩ 0 = (truthsL e, 0) := by rw [hw] at hke; exact hke
      have hc' : ck ⟨e.slack, e.tones, e.rds⟩ = 0 := hc
      have hd : worstOf e r = (worstL r e.slack (truthsL e), 0) := by unfold worstOf; rw [if_pos hk]
      rw [hd]
      have hwp := worst_p r e.slack (truthsL e) hr he.sl (by omega) (truthsL_ok he)
      generalize truthsL e = T at htl hke' hn hwp
      simp -implicitDefEqProofs (maxSteps := 2000000) (disch := omega) only [go_sem, reduceCtorEq, Nat.reduceAdd, Nat.reduceSub, Nat.reduceMul, Nat.reduceLT, Nat.reduceLeDiff, Nat.reduceEqDiff, Nat.reduceBEq, Int.reduceToNat, Int.reduceLT, Int.reduceLE, Int.reduceEq, Int.reduceNeg, Int.reduceAdd, Int.reduceSub, Int.reduceMul, ↓reduceIte, Int.reduceBEq, Int.reduceBNe, hc', hke', hw, tavs, Rd.av, giveB_rdv, rdv_cells]
      refine hwp _ _ ?_
      simp -implicitDefEqProofs (maxSteps := 2000000) (disch := omega) only [go_sem, reduceCtorEq, Nat.reduceAdd, Nat.reduceSub, Nat.reduceMul, Nat.reduceLT, Nat.reduceLeDiff, Nat.reduceEqDiff, Nat.reduceBEq, Int.reduceToNat, Int.reduceLT, Int.reduceLE, Int.reduceEq, Int.reduceNeg, Int.reduceAdd, Int.reduceSub, Int.reduceMul, ↓reduceIte, Int.reduceBEq, Int.reduceBNe, tavs]
    · have hk' : ¬ (askL ⟨e.slack, e.tones, e.rds⟩ (ckR r e.tones.length)).2 = 0 := hk
      have hc' : ck ⟨e.slack, e.tones, e.rds⟩ = 0 := hc
      have hd : worstOf e r = (0, (askL ⟨e.slack, e.tones, e.rds⟩ (ckR r e.tones.length)).2) := by unfold worstOf; rw [if_neg hk]
      rw [hd]
      have hlen := (okE_of_ck hc).len
      generalize hq : askL ⟨e.slack, e.tones, e.rds⟩ (ckR r e.tones.length) = q at hk'
      simp -implicitDefEqProofs (maxSteps := 2000000) (disch := omega) only [go_sem, reduceCtorEq, Nat.reduceAdd, Nat.reduceSub, Nat.reduceMul, Nat.reduceLT, Nat.reduceLeDiff, Nat.reduceEqDiff, Nat.reduceBEq, Int.reduceToNat, Int.reduceLT, Int.reduceLE, Int.reduceEq, Int.reduceNeg, Int.reduceAdd, Int.reduceSub, Int.reduceMul, ↓reduceIte, Int.reduceBEq, Int.reduceBNe, hc', hq, hk', tavs, Rd.av]
  · have hc' : ¬ ck ⟨e.slack, e.tones, e.rds⟩ = 0 := hc
    have hd : worstOf e r = (0, ck ⟨e.slack, e.tones, e.rds⟩) := by unfold worstOf askL; simp [hc]
    rw [hd]
    generalize hq : ck ⟨e.slack, e.tones, e.rds⟩ = q at hc'
    simp -implicitDefEqProofs (maxSteps := 2000000) (disch := omega) only [go_sem, reduceCtorEq, Nat.reduceAdd, Nat.reduceSub, Nat.reduceMul, Nat.reduceLT, Nat.reduceLeDiff, Nat.reduceEqDiff, Nat.reduceBEq, Int.reduceToNat, Int.reduceLT, Int.reduceLE, Int.reduceEq, Int.reduceNeg, Int.reduceAdd, Int.reduceSub, Int.reduceMul, ↓reduceIte, Int.reduceBEq, Int.reduceBNe, hq, hc', tavs, Rd.av]
def worst_m_s := spec2 tEar tRd fun e r => if e.tones.length ≤ 4294967296 ∧ e.rds.length ≤ 4294967296 then some (.tup [.int .i64 (worstOf e r).1, .int .i64 (worstOf e r).2]) else none
theorem worst_m_ok : ∀ xs v, worst_m_s xs = some v → PureV Try.prog 37 xs v :=
  spec2_ok fun e r v h => by have h := someIf h; rw [← h.2]; exact worst_m e r h.1.1 h.1.2

/-- A copy of a list, a list of its own. -/
theorem ints_c (l : List Int) (tk : Tok) (hl : l.length ≤ 4294967296) (σ : List AObj) (Q : AV → List AObj → Prop) (h : Q (.list (.own σ.length) 1 (l.map (.int .i64))) (σ ++ [.tail l.length 1])) :
    ACalls Try.prog 22 [.list tk 1 (l.map (.int .i64))] σ Q := by
  refine ACalls.of_ev (E := Try.E 6 (fun _ => ([], [])) fs0) (Try.envOK 6 (fun _ => ([], [])) fs0 fs0_ok) Try.kp22 Try.func22 rfl (by kernel_rfl) (by simp [Try.E]) (Callable.of Try.func22 (by kernel_rfl) (by kernel_rfl)) (by kernel_rfl) ?_
  simp -implicitDefEqProofs (maxSteps := 2000000) (disch := omega) only [go_sem, reduceCtorEq, Nat.reduceAdd, Nat.reduceSub, Nat.reduceMul, Nat.reduceLT, Nat.reduceLeDiff, Nat.reduceEqDiff, Nat.reduceBEq, Int.reduceToNat, Int.reduceLT, Int.reduceLE, Int.reduceEq, Int.reduceNeg, Int.reduceAdd, Int.reduceSub, Int.reduceMul, ↓reduceIte, Int.reduceBEq, Int.reduceBNe]
  exact h
/-- Valid gates, at most two. -/
theorem gatesOf_c (r : Nat) (σ : List AObj) (hp : PotAt σ r) (Q : AV → List AObj → Prop) (h : ∀ s' gs, ckGates gs = 0 → gs.length ≤ 2 → Q (.list .full 1 (gs.map (.int .i64))) (pw σ r s')) : ACalls Try.prog 20 [.ptr r 0] σ Q := by
  refine ACalls.of_ev (E := Try.E 20 (fun _ => ([], [])) fs0) (Try.envOK 20 (fun _ => ([], [])) fs0 fs0_ok) Try.kp20 Try.func20 rfl (by kernel_rfl) (by simp [Try.E]) (Callable.of Try.func20 (by kernel_rfl) (by kernel_rfl)) (by kernel_rfl) ?_
  simp -implicitDefEqProofs (maxSteps := 2000000) (disch := omega) only [go_sem, reduceCtorEq, Nat.reduceAdd, Nat.reduceSub, Nat.reduceMul, Nat.reduceLT, Nat.reduceLeDiff, Nat.reduceEqDiff, Nat.reduceBEq, Int.reduceToNat, Int.reduceLT, Int.reduceLE, Int.reduceEq, Int.reduceNeg, Int.reduceAdd, Int.reduceSub, Int.reduceMul, ↓reduceIte, Int.reduceBEq, Int.reduceBNe]
  refine within_c r 1 20 (by omega) (by omega) _ hp _ fun s1 a a1 a2 => ?_
  have ha : 1 ≤ a ∧ a ≤ 20 := by omega
  clear a1 a2
  have h1 : ∀ s', Q (.list .full 1 [.int .i64 a]) (pw σ r s') := fun s' => h s' [a] (by
    have : tg [a] 0 = a := rfl
    simp [ckGates, firstE, ckG, List.range_succ, this]; omega) (by simp)
  by_cases hlt : a < 20
  · simp -implicitDefEqProofs (maxSteps := 2000000) (disch := omega) only [go_sem, reduceCtorEq, Nat.reduceAdd, Nat.reduceSub, Nat.reduceMul, Nat.reduceLT, Nat.reduceLeDiff, Nat.reduceEqDiff, Nat.reduceBEq, Int.reduceToNat, Int.reduceLT, Int.reduceLE, Int.reduceEq, Int.reduceNeg, Int.reduceAdd, Int.reduceSub, Int.reduceMul, ↓reduceIte, Int.reduceBEq, Int.reduceBNe]
    refine odds_c r 1 2 (by omega) (by omega) _ (hp.pw _) _ fun s2 b => ?_
    rw [pw_pw]
    cases b
    · simp -implicitDefEqProofs (maxSteps := 2000000) (disch := omega) only [go_sem, reduceCtorEq, Nat.reduceAdd, Nat.reduceSub, Nat.reduceMul, Nat.reduceLT, Nat.reduceLeDiff, Nat.reduceEqDiff, Nat.reduceBEq, Int.reduceToNat, Int.reduceLT, Int.reduceLE, Int.reduceEq, Int.reduceNeg, Int.reduceAdd, Int.reduceSub, Int.reduceMul, ↓reduceIte, Int.reduceBEq, Int.reduceBNe]
      exact h1 _
    · simp -implicitDefEqProofs (maxSteps := 2000000) (disch := omega) only [go_sem, reduceCtorEq, Nat.reduceAdd, Nat.reduceSub, Nat.reduceMul, Nat.reduceLT, Nat.reduceLeDiff, Nat.reduceEqDiff, Nat.reduceBEq, Int.reduceToNat, Int.reduceLT, Int.reduceLE, Int.reduceEq, Int.reduceNeg, Int.reduceAdd, Int.reduceSub, Int.reduceMul, ↓reduceIte, Int.reduceBEq, Int.reduceBNe]
      refine within_c r (a + 1) 20 (by omega) (by omega) _ (hp.pw _) _ fun s3 b b1 b2 => ?_
      rw [pw_pw]
      simp -implicitDefEqProofs (maxSteps := 2000000) (disch := omega) only [go_sem, reduceCtorEq, Nat.reduceAdd, Nat.reduceSub, Nat.reduceMul, Nat.reduceLT, Nat.reduceLeDiff, Nat.reduceEqDiff, Nat.reduceBEq, Int.reduceToNat, Int.reduceLT, Int.reduceLE, Int.reduceEq, Int.reduceNeg, Int.reduceAdd, Int.reduceSub, Int.reduceMul, ↓reduceIte, Int.reduceBEq, Int.reduceBNe]
      refine h s3 [a, b] ?_ (by simp)
      have e0 : tg [a, b] 0 = a := rfl
      have e1 : tg [a, b] 1 = b := rfl
      simp [ckGates, firstE, ckG, List.range_succ, e0, e1]; omega
  · simp -implicitDefEqProofs (maxSteps := 2000000) (disch := omega) only [go_sem, reduceCtorEq, Nat.reduceAdd, Nat.reduceSub, Nat.reduceMul, Nat.reduceLT, Nat.reduceLeDiff, Nat.reduceEqDiff, Nat.reduceBEq, Int.reduceToNat, Int.reduceLT, Int.reduceLE, Int.reduceEq, Int.reduceNeg, Int.reduceAdd, Int.reduceSub, Int.reduceMul, ↓reduceIte, Int.reduceBEq, Int.reduceBNe]
    exact h1 _
set_option maxHeartbeats 1000000 in
theorem refByGates_p (m : Nat) (gs : List Int) (hm : m ≤ 3) (hg : gs.length ≤ 20) : PureV Try.prog 32 [.int .i64 m, .list .no 1 (gs.map (.int .i64))] (.list .no 6 ((byGatesL m gs).map Rd.av)) := by
  refine PureV.of_ev (E := Try.E 80 (fun _ => ([], [])) fs0) (Try.envOK 80 (fun _ => ([], [])) fs0 fs0_ok) (.map fun x _ => Rd.plain x) Try.kp32 Try.func32 rfl (by kernel_rfl) (by simp [Try.E]) (Callable.of Try.func32 (by kernel_rfl) (by kernel_rfl)) (by kernel_rfl) ?_
  intro σ
  obtain ⟨b1, b2, b3⟩ := byGates_le hm hg (i := m) (by omega)
  have hdef : byGatesL m gs = (gCC gs m ++ gBB gs m m) ++ gHH m m := by rw [List.append_assoc]; rfl
  rw [hdef]
  simp -implicitDefEqProofs (maxSteps := 2000000) (disch := omega) only [go_sem, reduceCtorEq, Nat.reduceAdd, Nat.reduceSub, Nat.reduceMul, Nat.reduceLT, Nat.reduceLeDiff, Nat.reduceEqDiff, Nat.reduceBEq, Int.reduceToNat, Int.reduceLT, Int.reduceLE, Int.reduceEq, Int.reduceNeg, Int.reduceAdd, Int.reduceSub, Int.reduceMul, ↓reduceIte, Int.reduceBEq, Int.reduceBNe]
  refine ARun.ghost 5 6 (sz0 := 0) rfl (by simp [lookA]) ?_
  simp only [ins, ↓reduceIte, List.append_assoc, List.cons_append, List.nil_append, List.length_append, List.length_cons, List.length_nil, Nat.zero_add, Nat.reduceEqDiff]
  refine ARun.forS (Try.envOK 80 (fun _ => ([], [])) fs0 fs0_ok) m (fun _ => True) (fun i => [(5, .list (.own σ.length) 6 ((gCC gs i).map Rd.av)), (6, .int .i64 i)]) (fun i _ => σ ++ [.tail (gCC gs i).length 6]) [] (by kernel_rfl) rfl (by simp [upd, ins, subF, lookA, gCC]) trivial ?_ ?_
  · intro i j hi _ ih
    have hb := (byGates_le hm hg (i := i) (by omega)).1
    have e1 : gCC gs (i + 1) = gCC gs i ++ gC gs i := by simp [gCC, List.range_succ]
    rw [e1] at ih
    generalize gCC gs i = C at hb ih ⊢
    simp -implicitDefEqProofs (maxSteps := 2000000) (disch := omega) only [go_sem, reduceCtorEq, Nat.reduceAdd, Nat.reduceSub, Nat.reduceMul, Nat.reduceLT, Nat.reduceLeDiff, Nat.reduceEqDiff, Nat.reduceBEq, Int.reduceToNat, Int.reduceLT, Int.reduceLE, Int.reduceEq, Int.reduceNeg, Int.reduceAdd, Int.reduceSub, Int.reduceMul, ↓reduceIte, Int.reduceBEq, Int.reduceBNe]
    refine ARun.forS (Try.envOK 80 (fun _ => ([], [])) fs0 fs0_ok) gs.length (fun _ => True) (fun k => [(5, .list (.own σ.length) 6 ((C ++ gC (gs.take k) i).map Rd.av)), (7, .int .i64 k)]) (fun k _ => σ ++ [.tail (C ++ gC (gs.take k) i).length 6]) [] (by kernel_rfl) (by simp [gC]) (by simp [upd, ins, subF, lookA, gC]) trivial ?_ ?_
    · intro k j hk _ ih2
      have e4 : C ++ gC (gs.take (k + 1)) i = (C ++ gC (gs.take k) i) ++ [⟨1, i, 0, gs[k], ⟨0, 0⟩⟩] := by
        rw [List.take_succ_eq_append_getElem hk]; simp only [gC, List.map_append, List.append_assoc]; rfl
      have e5 : (C ++ gC (gs.take k) i).length ≤ 80 := by simp [gC]; omega
      rw [e4] at ih2
      generalize C ++ gC (gs.take k) i = D at e5 ih2 ⊢
      simp -implicitDefEqProofs (maxSteps := 2000000) (disch := omega) only [go_sem, reduceCtorEq, Nat.reduceAdd, Nat.reduceSub, Nat.reduceMul, Nat.reduceLT, Nat.reduceLeDiff, Nat.reduceEqDiff, Nat.reduceBEq, Int.reduceToNat, Int.reduceLT, Int.reduceLE, Int.reduceEq, Int.reduceNeg, Int.reduceAdd, Int.reduceSub, Int.reduceMul, ↓reduceIte, Int.reduceBEq, Int.reduceBNe]
      exact (ih2 trivial []).castS (by simp) (by simp [upd, ins, subF, lookA, Rd.av])
    · intro j _
      rw [List.take_length]
      simp -implicitDefEqProofs (maxSteps := 2000000) (disch := omega) only [go_sem, reduceCtorEq, Nat.reduceAdd, Nat.reduceSub, Nat.reduceMul, Nat.reduceLT, Nat.reduceLeDiff, Nat.reduceEqDiff, Nat.reduceBEq, Int.reduceToNat, Int.reduceLT, Int.reduceLE, Int.reduceEq, Int.reduceNeg, Int.reduceAdd, Int.reduceSub, Int.reduceMul, ↓reduceIte, Int.reduceBEq, Int.reduceBNe]
      exact (ih trivial []).castS (by simp) (by simp [upd, ins, subF, lookA])
  · intro j _
    generalize gCC gs m = C at b1
    simp -implicitDefEqProofs (maxSteps := 2000000) (disch := omega) only [go_sem, reduceCtorEq, Nat.reduceAdd, Nat.reduceSub, Nat.reduceMul, Nat.reduceLT, Nat.reduceLeDiff, Nat.reduceEqDiff, Nat.reduceBEq, Int.reduceToNat, Int.reduceLT, Int.reduceLE, Int.reduceEq, Int.reduceNeg, Int.reduceAdd, Int.reduceSub, Int.reduceMul, ↓reduceIte, Int.reduceBEq, Int.reduceBNe]
    refine ARun.forS (Try.envOK 80 (fun _ => ([], [])) fs0 fs0_ok) m (fun _ => True) (fun i => [(5, .list (.own σ.length) 6 ((C ++ gBB gs m i).map Rd.av)), (8, .int .i64 i)]) (fun i _ => σ ++ [.tail (C ++ gBB gs m i).length 6]) [] (by kernel_rfl) (by simp [gBB]) (by simp [upd, ins, subF, lookA, gBB]) trivial ?_ ?_
    · intro i j hi _ ih
      have hb := (byGates_le hm hg (i := i) (by omega)).2.1
      have e1 : C ++ gBB gs m (i + 1) = (C ++ gBB gs m i) ++ gBs gs i (m - 1 - i) := by simp [gBB, List.range_succ]
      have hcl : (C ++ gBB gs m i).length ≤ 300 := by rw [List.length_append]; omega
      rw [e1] at ih
      generalize C ++ gBB gs m i = B at hcl ih ⊢
      simp -implicitDefEqProofs (maxSteps := 2000000) (disch := omega) only [go_sem, reduceCtorEq, Nat.reduceAdd, Nat.reduceSub, Nat.reduceMul, Nat.reduceLT, Nat.reduceLeDiff, Nat.reduceEqDiff, Nat.reduceBEq, Int.reduceToNat, Int.reduceLT, Int.reduceLE, Int.reduceEq, Int.reduceNeg, Int.reduceAdd, Int.reduceSub, Int.reduceMul, ↓reduceIte, Int.reduceBEq, Int.reduceBNe]
      refine ARun.forS (Try.envOK 80 (fun _ => ([], [])) fs0 fs0_ok) (m - 1 - i) (fun _ => True) (fun k => [(5, .list (.own σ.length) 6 ((B ++ gBs gs i k).map Rd.av)), (9, .int .i64 ((i : Int) + 1 + k))]) (fun k _ => σ ++ [.tail (B ++ gBs gs i k).length 6]) [] (by kernel_rfl) (by simp [gBs]) (by simp [upd, ins, subF, lookA, gBs]) trivial ?_ ?_
      · intro k j hk _ ih2
        have e4 : B ++ gBs gs i (k + 1) = (B ++ gBs gs i k) ++ gB gs i (i + 1 + k) := by simp [gBs, List.range_succ]
        have l2 : (B ++ gBs gs i k).length ≤ 400 := by rw [List.length_append]; have := gBs_le hg i k; omega
        rw [e4] at ih2
        generalize B ++ gBs gs i k = B' at l2 ih2 ⊢
        simp -implicitDefEqProofs (maxSteps := 2000000) (disch := omega) only [go_sem, reduceCtorEq, Nat.reduceAdd, Nat.reduceSub, Nat.reduceMul, Nat.reduceLT, Nat.reduceLeDiff, Nat.reduceEqDiff, Nat.reduceBEq, Int.reduceToNat, Int.reduceLT, Int.reduceLE, Int.reduceEq, Int.reduceNeg, Int.reduceAdd, Int.reduceSub, Int.reduceMul, ↓reduceIte, Int.reduceBEq, Int.reduceBNe]
        refine ARun.forS (Try.envOK 80 (fun _ => ([], [])) fs0 fs0_ok) gs.length (fun _ => True) (fun k' => [(5, .list (.own σ.length) 6 ((B' ++ gB (gs.take k') i (i + 1 + k)).map Rd.av)), (10, .int .i64 k')]) (fun k' _ => σ ++ [.tail (B' ++ gB (gs.take k') i (i + 1 + k)).length 6]) [] (by kernel_rfl) (by simp [gB]) (by simp [upd, ins, subF, lookA, gB]) trivial ?_ ?_
        · intro k' j hk' _ ih3
          have e6 : B' ++ gB (gs.take (k' + 1)) i (i + 1 + k) = (B' ++ gB (gs.take k') i (i + 1 + k)) ++ [⟨2, i, ((i + 1 + k : Nat) : Int), gs[k'], ⟨0, 0⟩⟩] := by
            rw [List.take_succ_eq_append_getElem hk']; simp only [gB, List.map_append, List.append_assoc]; rfl
          have l4 : (B' ++ gB (gs.take k') i (i + 1 + k)).length ≤ 500 := by simp [gB]; omega
          rw [e6] at ih3
          generalize B' ++ gB (gs.take k') i (i + 1 + k) = D at l4 ih3 ⊢
          simp -implicitDefEqProofs (maxSteps := 2000000) (disch := omega) only [go_sem, reduceCtorEq, Nat.reduceAdd, Nat.reduceSub, Nat.reduceMul, Nat.reduceLT, Nat.reduceLeDiff, Nat.reduceEqDiff, Nat.reduceBEq, Int.reduceToNat, Int.reduceLT, Int.reduceLE, Int.reduceEq, Int.reduceNeg, Int.reduceAdd, Int.reduceSub, Int.reduceMul, ↓reduceIte, Int.reduceBEq, Int.reduceBNe]
          exact (ih3 trivial []).castS (by simp) (by simp [upd, ins, subF, lookA, Rd.av])
        · intro j _
          rw [List.take_length]
          simp -implicitDefEqProofs (maxSteps := 2000000) (disch := omega) only [go_sem, reduceCtorEq, Nat.reduceAdd, Nat.reduceSub, Nat.reduceMul, Nat.reduceLT, Nat.reduceLeDiff, Nat.reduceEqDiff, Nat.reduceBEq, Int.reduceToNat, Int.reduceLT, Int.reduceLE, Int.reduceEq, Int.reduceNeg, Int.reduceAdd, Int.reduceSub, Int.reduceMul, ↓reduceIte, Int.reduceBEq, Int.reduceBNe]
          exact (ih2 trivial []).castS (by simp) (by simp [upd, ins, subF, lookA]; omega)
      · intro j _
        simp -implicitDefEqProofs (maxSteps := 2000000) (disch := omega) only [go_sem, reduceCtorEq, Nat.reduceAdd, Nat.reduceSub, Nat.reduceMul, Nat.reduceLT, Nat.reduceLeDiff, Nat.reduceEqDiff, Nat.reduceBEq, Int.reduceToNat, Int.reduceLT, Int.reduceLE, Int.reduceEq, Int.reduceNeg, Int.reduceAdd, Int.reduceSub, Int.reduceMul, ↓reduceIte, Int.reduceBEq, Int.reduceBNe]
        exact (ih trivial []).castS (by simp) (by simp [upd, ins, subF, lookA])
    · intro j _
      have hcb : (C ++ gBB gs m m).length ≤ 300 := by rw [List.length_append]; omega
      generalize hD : C ++ gBB gs m m = D at hcb ⊢
      simp -implicitDefEqProofs (maxSteps := 2000000) (disch := omega) only [go_sem, reduceCtorEq, Nat.reduceAdd, Nat.reduceSub, Nat.reduceMul, Nat.reduceLT, Nat.reduceLeDiff, Nat.reduceEqDiff, Nat.reduceBEq, Int.reduceToNat, Int.reduceLT, Int.reduceLE, Int.reduceEq, Int.reduceNeg, Int.reduceAdd, Int.reduceSub, Int.reduceMul, ↓reduceIte, Int.reduceBEq, Int.reduceBNe]
      refine ARun.forS (Try.envOK 80 (fun _ => ([], [])) fs0 fs0_ok) m (fun _ => True) (fun i => [(5, .list (.own σ.length) 6 ((D ++ gHH m i).map Rd.av)), (11, .int .i64 i)]) (fun i _ => σ ++ [.tail (D ++ gHH m i).length 6]) [] (by kernel_rfl) (by simp [gHH]) (by simp [upd, ins, subF, lookA, gHH]) trivial ?_ ?_
      · intro i j hi _ ih
        have hb := (byGates_le hm hg (i := i) (by omega)).2.2
        have e1 : D ++ gHH m (i + 1) = (D ++ gHH m i) ++ gHs i (m - 1 - i) := by simp [gHH, List.range_succ]
        have hcl : (D ++ gHH m i).length ≤ 400 := by rw [List.length_append]; omega
        rw [e1] at ih
        generalize D ++ gHH m i = F at hcl ih ⊢
        simp -implicitDefEqProofs (maxSteps := 2000000) (disch := omega) only [go_sem, reduceCtorEq, Nat.reduceAdd, Nat.reduceSub, Nat.reduceMul, Nat.reduceLT, Nat.reduceLeDiff, Nat.reduceEqDiff, Nat.reduceBEq, Int.reduceToNat, Int.reduceLT, Int.reduceLE, Int.reduceEq, Int.reduceNeg, Int.reduceAdd, Int.reduceSub, Int.reduceMul, ↓reduceIte, Int.reduceBEq, Int.reduceBNe]
        refine ARun.forS (Try.envOK 80 (fun _ => ([], [])) fs0 fs0_ok) (m - 1 - i) (fun _ => True) (fun k => [(5, .list (.own σ.length) 6 ((F ++ gHs i k).map Rd.av)), (12, .int .i64 ((i : Int) + 1 + k))]) (fun k _ => σ ++ [.tail (F ++ gHs i k).length 6]) [] (by kernel_rfl) (by simp [gHs]) (by simp [upd, ins, subF, lookA, gHs]) trivial ?_ ?_
        · intro k j hk _ ih2
          have e4 : F ++ gHs i (k + 1) = (F ++ gHs i k) ++ [gH i (i + 1 + k)] := by simp [gHs, List.range_succ]
          have l2 : (F ++ gHs i k).length ≤ 500 := by simp [gHs]; omega
          rw [e4] at ih2
          generalize F ++ gHs i k = G at l2 ih2 ⊢
          simp -implicitDefEqProofs (maxSteps := 2000000) (disch := omega) only [go_sem, reduceCtorEq, Nat.reduceAdd, Nat.reduceSub, Nat.reduceMul, Nat.reduceLT, Nat.reduceLeDiff, Nat.reduceEqDiff, Nat.reduceBEq, Int.reduceToNat, Int.reduceLT, Int.reduceLE, Int.reduceEq, Int.reduceNeg, Int.reduceAdd, Int.reduceSub, Int.reduceMul, ↓reduceIte, Int.reduceBEq, Int.reduceBNe]
          exact (ih2 trivial []).castS (by simp) (by simp [upd, ins, subF, lookA, Rd.av, gH]; omega)
        · intro j _
          simp -implicitDefEqProofs (maxSteps := 2000000) (disch := omega) only [go_sem, reduceCtorEq, Nat.reduceAdd, Nat.reduceSub, Nat.reduceMul, Nat.reduceLT, Nat.reduceLeDiff, Nat.reduceEqDiff, Nat.reduceBEq, Int.reduceToNat, Int.reduceLT, Int.reduceLE, Int.reduceEq, Int.reduceNeg, Int.reduceAdd, Int.reduceSub, Int.reduceMul, ↓reduceIte, Int.reduceBEq, Int.reduceBNe]
          exact (ih trivial []).castS (by simp) (by simp [upd, ins, subF, lookA])
      · intro j _
        simp -implicitDefEqProofs (maxSteps := 2000000) (disch := omega) only [go_sem, reduceCtorEq, Nat.reduceAdd, Nat.reduceSub, Nat.reduceMul, Nat.reduceLT, Nat.reduceLeDiff, Nat.reduceEqDiff, Nat.reduceBEq, Int.reduceToNat, Int.reduceLT, Int.reduceLE, Int.reduceEq, Int.reduceNeg, Int.reduceAdd, Int.reduceSub, Int.reduceMul, ↓reduceIte, Int.reduceBEq, Int.reduceBNe]
        rw [← hD, List.append_assoc]
def refByGates_s := spec2 tI tIs fun m gs => if 0 ≤ m ∧ m ≤ 3 ∧ gs.length ≤ 20 then some (.list .no 6 ((byGatesL m.toNat gs).map Rd.av)) else none
theorem refByGates_ok : ∀ xs v, refByGates_s xs = some v → PureV Try.prog 32 xs v :=
  spec2_ok fun m gs v h => by
    have h := someIf h
    rw [← h.2]
    have := refByGates_p m.toNat gs (by omega) h.1.2.2
    rw [Int.toNat_of_nonneg h.1.1] at this
    exact this
def fs19 (f : FuncId) (xs : List AV) : Option AV := if f = 32 then refByGates_s xs else if f = 37 then worst_m_s xs else fs18 f xs
theorem fs19_ok : ∀ f xs v, fs19 f xs = some v → PureV Try.prog f xs v := by
  intro f xs v h
  unfold fs19 at h
  split at h
  · rename_i e; subst e; exact refByGates_ok _ _ h
  split at h
  · rename_i e; subst e; exact worst_m_ok _ _ h
  exact fs18_ok _ _ _ h
attribute [go_sem] fs19 refByGates_s worst_m_s
end Go.Proofs
