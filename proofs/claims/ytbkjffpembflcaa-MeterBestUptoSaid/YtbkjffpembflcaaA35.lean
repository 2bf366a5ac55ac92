/- Texts of a proof: lemmas. -/
import Derived.Test.YtbkjffpembflcaaA34
set_option linter.unusedSimpArgs false
set_option linter.unusedVariables false
set_option maxRecDepth 100000
namespace Go.Proofs
open Go Go.Mu

set_option maxHeartbeats 4000000 in
theorem meterBest_c (nums : List Int) (hl : nums.length ≤ 4294967296) (σ : List AObj) : ACalls Try.prog 6 [.list .no 1 (nums.map (.int .i64))] σ (fun v _ => v = .bool true) := by
  refine ACalls.of_ev (E := Try.E 122 Try.ord6 fs19) (Try.envOK 122 Try.ord6 fs19 fs19_ok) Try.kp6 Try.func6 rfl (by kernel_rfl) (by simp [Try.E]) (Callable.of Try.func6 (by kernel_rfl) (by kernel_rfl)) (by kernel_rfl) ?_
  simp -implicitDefEqProofs (maxSteps := 2000000) (disch := omega) only [go_sem, reduceCtorEq, Nat.reduceAdd, Nat.reduceSub, Nat.reduceMul, Nat.reduceLT, Nat.reduceLeDiff, Nat.reduceEqDiff, Nat.reduceBEq, Int.reduceToNat, Int.reduceLT, Int.reduceLE, Int.reduceEq, Int.reduceNeg, Int.reduceAdd, Int.reduceSub, Int.reduceMul, ↓reduceIte, Int.reduceBEq, Int.reduceBNe]
  refine newPot_c nums .no hl _ _ fun s0 junk0 => ?_
  have hp : PotAt (σ ++ (.cells [.int .u64 s0] :: junk0)) σ.length := ⟨s0, by rw [hget_at0]; rfl⟩
  generalize σ ++ (.cells [.int .u64 s0] :: junk0) = σ1 at hp ⊢
  generalize σ.length = r at hp ⊢
  simp -implicitDefEqProofs (maxSteps := 2000000) (disch := omega) only [go_sem, reduceCtorEq, Nat.reduceAdd, Nat.reduceSub, Nat.reduceMul, Nat.reduceLT, Nat.reduceLeDiff, Nat.reduceEqDiff, Nat.reduceBEq, Int.reduceToNat, Int.reduceLT, Int.reduceLE, Int.reduceEq, Int.reduceNeg, Int.reduceAdd, Int.reduceSub, Int.reduceMul, ↓reduceIte, Int.reduceBEq, Int.reduceBNe]
  refine earOf_c r 3 3 4 (by omega) (by omega) (by omega) _ hp _ fun s1 e T junk1 hE => ?_
  replace hp : PotAt (pw σ1 r s1 ++ junk1) r := (hp.pw s1).app
  generalize pw σ1 r s1 ++ junk1 = σ2 at hp ⊢
  clear junk0 junk1
  have hr := hp.lt
  obtain ⟨sl, ts, rs⟩ := e
  have hck := hE.ck
  have he := okE_of_ck hck
  have hts3 := he.len
  have hrs3 := hE.rn
  simp only at hts3 hrs3
  simp only [Ear.av]
  simp -implicitDefEqProofs (maxSteps := 2000000) (disch := omega) only [go_sem, reduceCtorEq, Nat.reduceAdd, Nat.reduceSub, Nat.reduceMul, Nat.reduceLT, Nat.reduceLeDiff, Nat.reduceEqDiff, Nat.reduceBEq, Int.reduceToNat, Int.reduceLT, Int.reduceLE, Int.reduceEq, Int.reduceNeg, Int.reduceAdd, Int.reduceSub, Int.reduceMul, ↓reduceIte, Int.reduceBEq, Int.reduceBNe, length_pw, hget_pw0, hget_pw, hset_pw0, hset_pw]
  refine gatesOf_c r _ hp.app _ fun s3 gs hgs hgl => ?_
  rw [pw_app hr]
  obtain ⟨i0, hi0, hb, hb1, hb2⟩ := hE.best hgs
  obtain ⟨g1, g2, g3⟩ := ckGates_ok hgs
  have hwo : ∀ j (h : j < (byGatesL ts.length gs).length), worstOf ⟨sl, ts, rs⟩ (byGatesL ts.length gs)[j] = (worstL (byGatesL ts.length gs)[j] sl (truthsL ⟨sl, ts, rs⟩), 0) := fun j h => hE.worst (byGatesL_ck hts3 g3 _ (List.getElem_mem h))
  have hmore : ∀ x, tg gs ((gs.length : Int) - 1) + 1 ≤ x ∧ x ≤ 20 → ∃ bx bn, bestL ⟨sl, ts, rs⟩ (gs ++ [x]) = ((bx, bn), 0) ∧ bn ≤ worstL (byGatesL ts.length gs)[i0] sl (truthsL ⟨sl, ts, rs⟩) := fun x hx => by
    obtain ⟨i1, hi1, q1, q2, _⟩ := hE.best (gates_more hgs hgl hx)
    refine ⟨_, _, q1, ?_⟩
    have hm := byGatesL_sub (m := ts.length) (gs := gs) (gs' := gs ++ [x]) (fun s hs => by simp [hs]) _ (List.getElem_mem hi0)
    obtain ⟨j, hj, hje⟩ := List.mem_iff_getElem.1 hm
    have := q2 j hj
    rw [hje] at this; exact this
  have hlast : 1 ≤ tg gs ((gs.length : Int) - 1) ∧ tg gs ((gs.length : Int) - 1) ≤ 20 := by
    have hx : gs.length - 1 < gs.length := by
      have : 0 < gs.length := List.length_pos_iff.2 g1
      omega
    have e : (gs.length : Int) - 1 = ((gs.length - 1 : Nat) : Int) := by omega
    rw [e, tgE hx]; exact g3 _ (List.getElem_mem hx)
  have hgp : 0 < gs.length := List.length_pos_iff.2 g1
  have hLl := byGatesL_len (m := ts.length) (gs := gs) hts3 (by omega)
  simp only at hb hb1 hb2 hi0 hmore
  have hgs4 : gs.length ≤ 3 := g2
  clear hE hck he hgs g1 g2 g3
  generalize hLd : byGatesL ts.length gs = L at hi0 hb hb1 hb2 hwo hmore hLl
  generalize truthsL ⟨sl, ts, rs⟩ = TT at hb hb1 hb2 hwo hmore
  obtain ⟨bx, hbx⟩ : ∃ y, L[i0] = y := ⟨_, rfl⟩
  obtain ⟨bn, hbn⟩ : ∃ y, worstL bx sl TT = y := ⟨_, rfl⟩
  rw [hbx, hbn] at hb hb1 hb2 hmore
  simp -implicitDefEqProofs (maxSteps := 2000000) (disch := omega) only [go_sem, reduceCtorEq, Nat.reduceAdd, Nat.reduceSub, Nat.reduceMul, Nat.reduceLT, Nat.reduceLeDiff, Nat.reduceEqDiff, Nat.reduceBEq, Int.reduceToNat, Int.reduceLT, Int.reduceLE, Int.reduceEq, Int.reduceNeg, Int.reduceAdd, Int.reduceSub, Int.reduceMul, ↓reduceIte, Int.reduceBEq, Int.reduceBNe, length_pw, hget_pw0, hget_pw, hset_pw0, hset_pw, hb, hLd, Rd.av]
  have hR0 : hget (pw σ2 r s3 ++ [.cells [.int .i64 sl, .list .no 2 (ts.map Rng.av), .list .no 6 (rs.map Rd.av)], .cells [.int .i64 bx.kind, .int .i64 bx.a, .int .i64 bx.b, .int .i64 bx.sec, .int .i64 bx.shown.lo, .int .i64 bx.shown.hi]]) σ2.length = some (.cells [.int .i64 sl, .list .no 2 (ts.map Rng.av), .list .no 6 (rs.map Rd.av)]) := by rw [hget_pw0]; rfl
  have hR1 : hget (pw σ2 r s3 ++ [.cells [.int .i64 sl, .list .no 2 (ts.map Rng.av), .list .no 6 (rs.map Rd.av)], .cells [.int .i64 bx.kind, .int .i64 bx.a, .int .i64 bx.b, .int .i64 bx.sec, .int .i64 bx.shown.lo, .int .i64 bx.shown.hi]]) (σ2.length + 1) = some (.cells [.int .i64 bx.kind, .int .i64 bx.a, .int .i64 bx.b, .int .i64 bx.sec, .int .i64 bx.shown.lo, .int .i64 bx.shown.hi]) := by rw [hget_pw]; rfl
  have hpt : PotAt (pw σ2 r s3 ++ [.cells [.int .i64 sl, .list .no 2 (ts.map Rng.av), .list .no 6 (rs.map Rd.av)], .cells [.int .i64 bx.kind, .int .i64 bx.a, .int .i64 bx.b, .int .i64 bx.sec, .int .i64 bx.shown.lo, .int .i64 bx.shown.hi]]) r := (hp.pw s3).app
  generalize pw σ2 r s3 ++ [.cells [.int .i64 sl, .list .no 2 (ts.map Rng.av), .list .no 6 (rs.map Rd.av)], .cells [.int .i64 bx.kind, .int .i64 bx.a, .int .i64 bx.b, .int .i64 bx.sec, .int .i64 bx.shown.lo, .int .i64 bx.shown.hi]] = τ at hR0 hR1 hpt ⊢
  have hRr : σ2.length ≠ r := by omega
  generalize σ2.length = R0 at hR0 hR1 hRr ⊢
  clear hp hr hb
  obtain ⟨fb, hfb⟩ : ∃ f : Nat → Bool, f = fun i => (L.take i).all fun y => decide (bn < worstL y sl TT) := ⟨_, rfl⟩
  have hf0 : fb 0 = true := by rw [hfb]; rfl
  have hfs : ∀ i (h : i < L.length), fb (i + 1) = (fb i && decide (bn < worstL L[i] sl TT)) := fun i h => by
    rw [hfb]; simp only
    rw [List.take_succ_eq_append_getElem h, List.all_append]; simp
  have hfe : fb L.length = false := by
    rw [hfb]; simp only
    rw [List.take_length, List.all_eq_false]
    exact ⟨bx, by rw [← hbx]; exact List.getElem_mem hi0, by rw [hbn]; simp⟩
  have hfx : ∀ i (h : i < L.length), fb i = true → worstL L[i] sl TT = bn → L[i] = bx := fun i h h1 h2 => by
    rcases Nat.lt_trichotomy i i0 with h3 | h3 | h3
    · have := hb2 i h h3; omega
    · subst h3; exact hbx
    · rw [hfb] at h1
      have := List.all_eq_true.1 h1 bx (by
        rw [← hbx, List.mem_iff_getElem]
        exact ⟨i0, by simp; omega, by simp⟩)
      rw [hbn] at this; simp at this
  clear hfb hb2
  have hrl : r < τ.length := hpt.lt
  refine ARun.forS (Try.envOK 122 Try.ord6 fs19 fs19_ok) L.length (fun _ => True) (fun i => [(11, .bool (fb i)), (12, .int .i64 i)]) (fun _ _ => τ) [] (by kernel_rfl) rfl (by simp [upd, ins, subF, lookA, hf0]) trivial ?_ ?_
  · intro i j hi _ ih
    have hn := hb1 i hi
    have hw := hwo i hi
    have hs := hfs i hi
    have hx := hfx i hi
    rw [hs] at ih
    clear hb1 hwo hfs hfx hfe hmore hlast hf0 hbx hLd
    obtain ⟨y, hy⟩ : ∃ y, L[i] = y := ⟨_, rfl⟩
    rw [hy] at hn hw hx ih
    have hidx : idx (L.map Rd.av) (i : Int) = some y.av := by rw [idx_nat hi, hy]
    generalize worstL y sl TT = ny at hn hw hx ih
    generalize fb i = b at hx ih ⊢
    simp -implicitDefEqProofs (maxSteps := 2000000) (disch := omega) only [go_sem, reduceCtorEq, Nat.reduceAdd, Nat.reduceSub, Nat.reduceMul, Nat.reduceLT, Nat.reduceLeDiff, Nat.reduceEqDiff, Nat.reduceBEq, Int.reduceToNat, Int.reduceLT, Int.reduceLE, Int.reduceEq, Int.reduceNeg, Int.reduceAdd, Int.reduceSub, Int.reduceMul, ↓reduceIte, Int.reduceBEq, Int.reduceBNe, hR0, hR1, hidx, Rd.av, hw]
    by_cases hcmp : ny = bn
    · subst hcmp
      cases b
      · rw [Bool.false_and] at ih
        simp -implicitDefEqProofs (maxSteps := 2000000) (disch := omega) only [go_sem, reduceCtorEq, Nat.reduceAdd, Nat.reduceSub, Nat.reduceMul, Nat.reduceLT, Nat.reduceLeDiff, Nat.reduceEqDiff, Nat.reduceBEq, Int.reduceToNat, Int.reduceLT, Int.reduceLE, Int.reduceEq, Int.reduceNeg, Int.reduceAdd, Int.reduceSub, Int.reduceMul, ↓reduceIte, Int.reduceBEq, Int.reduceBNe, hR0, hR1, hidx, Rd.av]
        exact (ih trivial []).castS rfl (by simp [upd, ins, subF, lookA])
      · have hyb := hx rfl rfl
        subst hyb
        have hd : decide (ny < ny) = false := by simp
        rw [Bool.true_and, hd] at ih
        simp -implicitDefEqProofs (maxSteps := 2000000) (disch := omega) only [go_sem, reduceCtorEq, Nat.reduceAdd, Nat.reduceSub, Nat.reduceMul, Nat.reduceLT, Nat.reduceLeDiff, Nat.reduceEqDiff, Nat.reduceBEq, Int.reduceToNat, Int.reduceLT, Int.reduceLE, Int.reduceEq, Int.reduceNeg, Int.reduceAdd, Int.reduceSub, Int.reduceMul, ↓reduceIte, Int.reduceBEq, Int.reduceBNe, hR0, hR1, hidx, Rd.av]
        exact (ih trivial []).castS rfl (by simp [upd, ins, subF, lookA])
    · have hlt : bn < ny := by omega
      have hd : decide (bn < ny) = true := by simpa using hlt
      rw [hd, Bool.and_true] at ih
      simp -implicitDefEqProofs (maxSteps := 2000000) (disch := omega) only [go_sem, reduceCtorEq, Nat.reduceAdd, Nat.reduceSub, Nat.reduceMul, Nat.reduceLT, Nat.reduceLeDiff, Nat.reduceEqDiff, Nat.reduceBEq, Int.reduceToNat, Int.reduceLT, Int.reduceLE, Int.reduceEq, Int.reduceNeg, Int.reduceAdd, Int.reduceSub, Int.reduceMul, ↓reduceIte, Int.reduceBEq, Int.reduceBNe, hR0, hR1, hidx, Rd.av]
      cases b
      · simp -implicitDefEqProofs (maxSteps := 2000000) (disch := omega) only [go_sem, reduceCtorEq, Nat.reduceAdd, Nat.reduceSub, Nat.reduceMul, Nat.reduceLT, Nat.reduceLeDiff, Nat.reduceEqDiff, Nat.reduceBEq, Int.reduceToNat, Int.reduceLT, Int.reduceLE, Int.reduceEq, Int.reduceNeg, Int.reduceAdd, Int.reduceSub, Int.reduceMul, ↓reduceIte, Int.reduceBEq, Int.reduceBNe]
        exact (ih trivial []).castS rfl (by simp [upd, ins, subF, lookA])
      · simp -implicitDefEqProofs (maxSteps := 2000000) (disch := omega) only [go_sem, reduceCtorEq, Nat.reduceAdd, Nat.reduceSub, Nat.reduceMul, Nat.reduceLT, Nat.reduceLeDiff, Nat.reduceEqDiff, Nat.reduceBEq, Int.reduceToNat, Int.reduceLT, Int.reduceLE, Int.reduceEq, Int.reduceNeg, Int.reduceAdd, Int.reduceSub, Int.reduceMul, ↓reduceIte, Int.reduceBEq, Int.reduceBNe]
        exact (ih trivial []).castS rfl (by simp [upd, ins, subF, lookA])
  · intro j _
    rw [hfe]
    clear hb1 hwo hfs hfx hfe hf0 hbx hLd hLl hbn hi0
    obtain ⟨last, hlg⟩ : ∃ y, tg gs ((gs.length : Int) - 1) = y := ⟨_, rfl⟩
    rw [hlg] at hlast hmore
    have hidx : idx (gs.map (AV.int .i64)) ((gs.length : Int) - 1) = some (.int .i64 last) := by rw [idx_tg (by omega) (by omega), hlg]
    have hRp : ∀ s l, hget (pw τ r s ++ l) R0 = some (.cells [.int .i64 sl, .list .no 2 (ts.map Rng.av), .list .no 6 (rs.map Rd.av)]) := fun s l => by
      rw [hget_app (by rw [length_pw]; exact hget_lt hR0)]
      unfold pw
      rw [hget_ne (fun e => hRr e.symm)]; exact hR0
    have hRq : ∀ l, hget (τ ++ l) R0 = some (.cells [.int .i64 sl, .list .no 2 (ts.map Rng.av), .list .no 6 (rs.map Rd.av)]) := fun l => by rw [hget_app (hget_lt hR0)]; exact hR0
    by_cases h20 : last = 20
    · simp -implicitDefEqProofs (maxSteps := 2000000) (disch := omega) only [go_sem, reduceCtorEq, Nat.reduceAdd, Nat.reduceSub, Nat.reduceMul, Nat.reduceLT, Nat.reduceLeDiff, Nat.reduceEqDiff, Nat.reduceBEq, Int.reduceToNat, Int.reduceLT, Int.reduceLE, Int.reduceEq, Int.reduceNeg, Int.reduceAdd, Int.reduceSub, Int.reduceMul, ↓reduceIte, Int.reduceBEq, Int.reduceBNe, hR0, hidx]
    · simp -implicitDefEqProofs (maxSteps := 2000000) (disch := omega) only [go_sem, reduceCtorEq, Nat.reduceAdd, Nat.reduceSub, Nat.reduceMul, Nat.reduceLT, Nat.reduceLeDiff, Nat.reduceEqDiff, Nat.reduceBEq, Int.reduceToNat, Int.reduceLT, Int.reduceLE, Int.reduceEq, Int.reduceNeg, Int.reduceAdd, Int.reduceSub, Int.reduceMul, ↓reduceIte, Int.reduceBEq, Int.reduceBNe, hR0, hidx]
      refine ints_c gs .full (by omega) _ _ ?_
      simp -implicitDefEqProofs (maxSteps := 2000000) (disch := omega) only [go_sem, reduceCtorEq, Nat.reduceAdd, Nat.reduceSub, Nat.reduceMul, Nat.reduceLT, Nat.reduceLeDiff, Nat.reduceEqDiff, Nat.reduceBEq, Int.reduceToNat, Int.reduceLT, Int.reduceLE, Int.reduceEq, Int.reduceNeg, Int.reduceAdd, Int.reduceSub, Int.reduceMul, ↓reduceIte, Int.reduceBEq, Int.reduceBNe, hR0, hRq, hidx]
      refine within_c r (last + 1) 20 (by omega) (by omega) _ hpt.app _ fun s5 x hx1 hx2 => ?_
      rw [pw_app hrl]
      have hx : last + 1 ≤ x ∧ x ≤ 20 := by omega
      clear hx1 hx2
      obtain ⟨bx2, bn2, hbm, hble⟩ := hmore x hx
      have hdl : decL 1 decI (.list (.own τ.length) 1 (gs.map (AV.int .i64) ++ [.int .i64 x])) = some (gs ++ [x]) := by
        have := decL_ints (t := .own τ.length) (l := gs ++ [x])
        rw [List.map_append] at this
        exact this
      simp -implicitDefEqProofs (maxSteps := 2000000) (disch := omega) only [go_sem, reduceCtorEq, Nat.reduceAdd, Nat.reduceSub, Nat.reduceMul, Nat.reduceLT, Nat.reduceLeDiff, Nat.reduceEqDiff, Nat.reduceBEq, Int.reduceToNat, Int.reduceLT, Int.reduceLE, Int.reduceEq, Int.reduceNeg, Int.reduceAdd, Int.reduceSub, Int.reduceMul, ↓reduceIte, Int.reduceBEq, Int.reduceBNe, hR0, hRq, hRp, length_pw, hget_pw0, hget_pw, hset_pw0, hset_pw, hdl, hbm, Rd.av]
end Go.Proofs
