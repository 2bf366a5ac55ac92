/- Texts of a proof: lemmas. -/
import Derived.Test.YtpodkdondibbfaaRC5
set_option linter.unusedSimpArgs false
set_option linter.unusedVariables false
set_option maxRecDepth 100000
namespace Go.Proofs
open Go Go.Mu

set_option maxHeartbeats 400000000 in
theorem topGauged_c (nums : List Int) (hl : nums.length ≤ 4294967296) (σ : List AObj) : ACalls Try.prog 4 [.list .no 1 (nums.map (.int .i64))] σ (fun v _ => v = .bool true) := by
  refine ACalls.of_ev (E := Try.E 262 Try.ord4 fs212) (Try.envOK 262 Try.ord4 fs212 fs212_ok) Try.kp4 Try.func4 rfl (by kernel_rfl) (by simp [Try.E]) (Callable.of Try.func4 (by kernel_rfl) (by kernel_rfl)) (by kernel_rfl) ?_
  simp -implicitDefEqProofs (maxSteps := 2000000) (disch := omega) only [go_sem, reduceCtorEq, Nat.reduceAdd, Nat.reduceSub, Nat.reduceMul, Nat.reduceLT, Nat.reduceLeDiff, Nat.reduceEqDiff, Nat.reduceBEq, Int.reduceToNat, Int.reduceLT, Int.reduceLE, Int.reduceEq, Int.reduceNeg, Int.reduceAdd, Int.reduceSub, Int.reduceMul, ↓reduceIte, Int.reduceBEq, Int.reduceBNe]
  refine newPot_c nums .no hl σ _ fun s0 J0 => ?_
  have hp : PotAt (σ ++ (.cells [.int .u64 s0] :: J0)) σ.length := ⟨s0, hget_at0⟩
  have hr := hp.lt
  generalize σ ++ (.cells [.int .u64 s0] :: J0) = σ1 at hp hr ⊢
  generalize σ.length = r at hp hr ⊢
  simp -implicitDefEqProofs (maxSteps := 2000000) (disch := omega) only [go_sem, reduceCtorEq, Nat.reduceAdd, Nat.reduceSub, Nat.reduceMul, Nat.reduceLT, Nat.reduceLeDiff, Nat.reduceEqDiff, Nat.reduceBEq, Int.reduceToNat, Int.reduceLT, Int.reduceLE, Int.reduceEq, Int.reduceNeg, Int.reduceAdd, Int.reduceSub, Int.reduceMul, ↓reduceIte, Int.reduceBEq, Int.reduceBNe]
  refine jobOf_c r 5 (by omega) _ hp _ fun s1 j J1 hj => ?_
  have hp2 : PotAt (pw σ1 r s1 ++ J1) r := (hp.pw _).app
  generalize pw σ1 r s1 ++ J1 = σ2 at hp2 ⊢
  have hr2 := hp2.lt
  clear hp hr
  simp only [Jb.av, Jb.cells]
  simp -implicitDefEqProofs (maxSteps := 2000000) (disch := omega) only [go_sem, reduceCtorEq, Nat.reduceAdd, Nat.reduceSub, Nat.reduceMul, Nat.reduceLT, Nat.reduceLeDiff, Nat.reduceEqDiff, Nat.reduceBEq, Int.reduceToNat, Int.reduceLT, Int.reduceLE, Int.reduceEq, Int.reduceNeg, Int.reduceAdd, Int.reduceSub, Int.reduceMul, ↓reduceIte, Int.reduceBEq, Int.reduceBNe, length_pw, hget_pw0, hget_pw, hset_pw0, hset_pw]
  refine within_c r 0 4 (by omega) (by omega) _ hp2.app _ fun s2 w1 h1 h2 => ?_
  rw [pw_app hr2]
  simp -implicitDefEqProofs (maxSteps := 2000000) (disch := omega) only [go_sem, reduceCtorEq, Nat.reduceAdd, Nat.reduceSub, Nat.reduceMul, Nat.reduceLT, Nat.reduceLeDiff, Nat.reduceEqDiff, Nat.reduceBEq, Int.reduceToNat, Int.reduceLT, Int.reduceLE, Int.reduceEq, Int.reduceNeg, Int.reduceAdd, Int.reduceSub, Int.reduceMul, ↓reduceIte, Int.reduceBEq, Int.reduceBNe, length_pw, hget_pw0, hget_pw, hset_pw0, hset_pw]
  refine within_c r 8 10 (by omega) (by omega) _ (hp2.pw _).app _ fun s3 w2 h3 h4 => ?_
  rw [pw_pwa hr2]
  simp -implicitDefEqProofs (maxSteps := 2000000) (disch := omega) only [go_sem, reduceCtorEq, Nat.reduceAdd, Nat.reduceSub, Nat.reduceMul, Nat.reduceLT, Nat.reduceLeDiff, Nat.reduceEqDiff, Nat.reduceBEq, Int.reduceToNat, Int.reduceLT, Int.reduceLE, Int.reduceEq, Int.reduceNeg, Int.reduceAdd, Int.reduceSub, Int.reduceMul, ↓reduceIte, Int.reduceBEq, Int.reduceBNe, length_pw, hget_pw0, hget_pw, hset_pw0, hset_pw]
  refine of_c r [w1, w2, 9] .full (by simp) _ (hp2.pw _).app _ fun s4 w hw => ?_
  rw [pw_pwa hr2]
  have hw : 0 ≤ w ∧ w ≤ 10 := by simp at hw; omega
  clear h1 h2 h3 h4
  simp -implicitDefEqProofs (maxSteps := 2000000) (disch := omega) only [go_sem, reduceCtorEq, Nat.reduceAdd, Nat.reduceSub, Nat.reduceMul, Nat.reduceLT, Nat.reduceLeDiff, Nat.reduceEqDiff, Nat.reduceBEq, Int.reduceToNat, Int.reduceLT, Int.reduceLE, Int.reduceEq, Int.reduceNeg, Int.reduceAdd, Int.reduceSub, Int.reduceMul, ↓reduceIte, Int.reduceBEq, Int.reduceBNe, length_pw, hget_pw0, hget_pw, hset_pw0, hset_pw]
  refine of_c r [0, 0, 1] .full (by simp) _ (hp2.pw _).app _ fun s5 sl hsl => ?_
  rw [pw_pwa hr2]
  have hsl : 0 ≤ sl ∧ sl ≤ 1 := by simp at hsl; omega
  simp -implicitDefEqProofs (maxSteps := 2000000) (disch := omega) only [go_sem, reduceCtorEq, Nat.reduceAdd, Nat.reduceSub, Nat.reduceMul, Nat.reduceLT, Nat.reduceLeDiff, Nat.reduceEqDiff, Nat.reduceBEq, Int.reduceToNat, Int.reduceLT, Int.reduceLE, Int.reduceEq, Int.reduceNeg, Int.reduceAdd, Int.reduceSub, Int.reduceMul, ↓reduceIte, Int.reduceBEq, Int.reduceBNe, length_pw, hget_pw0, hget_pw, hset_pw0, hset_pw]
  refine within_c r 5 14 (by omega) (by omega) _ (hp2.pw _).app _ fun s6 wi h1 h2 => ?_
  rw [pw_pwa hr2]
  have hwi : 5 ≤ wi ∧ wi ≤ 14 := by omega
  clear h1 h2
  obtain ⟨m, hm⟩ : ∃ m, (w + 1).tdiv 2 = m := ⟨_, rfl⟩
  have hm2 : 0 ≤ m ∧ m ≤ 6 ∧ w ≤ 2 * m := by rw [← hm, Int.tdiv_eq_ediv_of_nonneg (by omega)]; omega
  have hj0 : OkJ { j with within := wi, meter := m } := by obtain ⟨h1, h2, h3, h4, h5, h6, h7, h8, h9, h10, h11, h12⟩ := hj.ok; exact ⟨h1, h2, h3, h4, h5, h6, h7, h8, h9, h10, by simp only; omega, by simp only; omega⟩
  simp -implicitDefEqProofs (maxSteps := 2000000) (disch := omega) only [go_sem, reduceCtorEq, Nat.reduceAdd, Nat.reduceSub, Nat.reduceMul, Nat.reduceLT, Nat.reduceLeDiff, Nat.reduceEqDiff, Nat.reduceBEq, Int.reduceToNat, Int.reduceLT, Int.reduceLE, Int.reduceEq, Int.reduceNeg, Int.reduceAdd, Int.reduceSub, Int.reduceMul, ↓reduceIte, Int.reduceBEq, Int.reduceBNe, length_pw, hget_pw0, hget_pw, hset_pw0, hset_pw, hm]
  refine guided_c hj0 _ _ fun J2 => ?_
  have hjm : ∃ jm : Jb, OkJ jm ∧ jm.meter = m ∧ (jm.up = j.up ∧ jm.down = j.down ∧ jm.pitch = j.pitch) ∧ jm = { j with within := wi, meter := m } ∧ hget (pw σ2 r s6 ++ ([.cells (Jb.cells { j with within := wi, meter := m })] ++ J2)) σ2.length = some (.cells (Jb.cells jm)) := ⟨_, hj0, rfl, ⟨rfl, rfl, rfl⟩, rfl, by rw [hget_pw0]; rfl⟩
  have hp3 : PotAt (pw σ2 r s6 ++ ([.cells (Jb.cells { j with within := wi, meter := m })] ++ J2)) r := (hp2.pw _).app
  have hne : σ2.length ≠ r := by omega
  obtain ⟨rj, hrj⟩ : ∃ rj, rj = σ2.length := ⟨_, rfl⟩
  obtain ⟨jm, hjo, hjme, ⟨hju, hjd, hjp⟩, hje, hjg⟩ := hjm
  rw [← hje]
  rw [← hrj] at hjg hne ⊢
  rw [← hje] at hp3 hjg
  rw [show j.pitch = jm.pitch from hjp.symm, show j.tip = jm.tip by rw [hje], show j.root = jm.root by rw [hje], show j.up = jm.up from hju.symm, show j.down = jm.down from hjd.symm, show j.wt = jm.wt by rw [hje], show j.wr = jm.wr by rw [hje], show j.least = jm.least by rw [hje], show j.shifts = jm.shifts by rw [hje], show wi = jm.within by rw [hje], show m = jm.meter from hjme.symm]
  rw [List.append_assoc]
  have hup := hj.up
  have hdn := hj.down
  have hpt := hj.pit
  rw [← hju] at hup
  rw [← hjd] at hdn
  rw [← hjp] at hpt
  clear hje hjp hju hjd hj hj0 hm
  simp only [Jb.cells] at hjg hp3
  generalize pw σ2 r s6 ++ ([_] ++ J2) = σ3 at hjg hp3 ⊢
  have hr3 := hp3.lt
  clear hp2 hr2 hrj hwi
  cases hgd : guidedS jm with
  | none =>
    simp only [optV]
    simp -implicitDefEqProofs (maxSteps := 2000000) (disch := omega) only [go_sem, reduceCtorEq, Nat.reduceAdd, Nat.reduceSub, Nat.reduceMul, Nat.reduceLT, Nat.reduceLeDiff, Nat.reduceEqDiff, Nat.reduceBEq, Int.reduceToNat, Int.reduceLT, Int.reduceLE, Int.reduceEq, Int.reduceNeg, Int.reduceAdd, Int.reduceSub, Int.reduceMul, ↓reduceIte, Int.reduceBEq, Int.reduceBNe]
    exact filingAwake_c _ _ fun σ' => by simp -implicitDefEqProofs (maxSteps := 2000000) (disch := omega) only [go_sem, reduceCtorEq, Nat.reduceAdd, Nat.reduceSub, Nat.reduceMul, Nat.reduceLT, Nat.reduceLeDiff, Nat.reduceEqDiff, Nat.reduceBEq, Int.reduceToNat, Int.reduceLT, Int.reduceLE, Int.reduceEq, Int.reduceNeg, Int.reduceAdd, Int.reduceSub, Int.reduceMul, ↓reduceIte, Int.reduceBEq, Int.reduceBNe]
  | some n =>
    have hn5 : n < 5 := by have := List.mem_of_find?_eq_some hgd; rwa [List.mem_range] at this
    have hg0 : rdsK jm ⟨jm.pitch, 0, 0, n⟩ = true := List.find?_some (p := fun n => rdsK jm ⟨jm.pitch, 0, 0, n⟩) (show (List.range 5).find? _ = some n from hgd)
    clear hgd
    simp only [optV]
    simp -implicitDefEqProofs (maxSteps := 2000000) (disch := omega) only [go_sem, reduceCtorEq, Nat.reduceAdd, Nat.reduceSub, Nat.reduceMul, Nat.reduceLT, Nat.reduceLeDiff, Nat.reduceEqDiff, Nat.reduceBEq, Int.reduceToNat, Int.reduceLT, Int.reduceLE, Int.reduceEq, Int.reduceNeg, Int.reduceAdd, Int.reduceSub, Int.reduceMul, ↓reduceIte, Int.reduceBEq, Int.reduceBNe, hjg]
    refine filedOf_c r jm hjo.pitch hjo.tip hjo.root _ hp3 _ fun s7 p a b J3 p1 p2 ha hb => ?_
    have hp4 : PotAt (pw σ3 r s7 ++ J3) r := (hp3.pw _).app
    have hjg4 := (pw_get (l := J3) (s := s7) (hget_lt hjg) hne).trans hjg
    generalize pw σ3 r s7 ++ J3 = σ4 at hp4 hjg4 ⊢
    clear hp3 hr3 hjg
    simp -implicitDefEqProofs (maxSteps := 2000000) (disch := omega) only [go_sem, reduceCtorEq, Nat.reduceAdd, Nat.reduceSub, Nat.reduceMul, Nat.reduceLT, Nat.reduceLeDiff, Nat.reduceEqDiff, Nat.reduceBEq, Int.reduceToNat, Int.reduceLT, Int.reduceLE, Int.reduceEq, Int.reduceNeg, Int.reduceAdd, Int.reduceSub, Int.reduceMul, ↓reduceIte, Int.reduceBEq, Int.reduceBNe]
    have hp5 : PotAt (σ4 ++ [.cells [.int .i64 p, .int .i64 a, .int .i64 b]]) r := hp4.app
    have hjg5 := (hget_app (l := [.cells [.int .i64 p, .int .i64 a, .int .i64 b]]) (hget_lt hjg4)).trans hjg4
    have htg5 : hget (σ4 ++ [.cells [.int .i64 p, .int .i64 a, .int .i64 b]]) σ4.length = some (.cells [.int .i64 p, .int .i64 a, .int .i64 b]) := hget_at0
    have hn1 : σ4.length ≠ r := by have := hp4.lt; omega
    have hn2 : σ4.length ≠ rj := by have := hget_lt hjg4; omega
    obtain ⟨rt, hrt⟩ : ∃ rt, rt = σ4.length := ⟨_, rfl⟩
    rw [← hrt] at htg5 hn1 hn2 ⊢
    generalize σ4 ++ [_] = σ5 at hp5 hjg5 htg5 ⊢
    clear hp4 hjg4 hrt
    have hI : GInv w m n 0 jm p a b n := ⟨hjo, hjme, hup, hdn, by omega, by omega, by omega, ⟨p1, p2⟩, by omega, by omega, by omega, hg0⟩
    clear hjo hjme hup hdn hpt p1 p2 ha hb hg0
    refine ARun.castS (sl' := [(2, .bool false), (3, .ptr r 0), (4, .ptr rj 0), (5, .int .i64 w), (6, .int .i64 sl), (7, .int .i64 (n : Int)), (9, .ptr rt 0), (10, .int .i64 ((0 : Nat) : Int))]) (σ' := σ5) ?_ rfl (by simp [upd, ins, subF, lookA])
    refine ARun.countA 5 (GJ w m n r rj rt) (fun s => [(10, .int .i64 (s : Int))]) (by simp [upd, ins, subF, lookA]) ⟨jm, p, a, b, n, hI, hp5, hjg5, htg5⟩ ?_ ?_
    · intro s τ hs hJ ih
      have key := gauge_round hw hsl hm2 hn5 hne hn1 hn2 s τ hs hJ
      obtain ⟨x, hx⟩ : ∃ x, (loopAt Try.f4 11) = x := ⟨_, rfl⟩
      rw [hx] at key
      conv at hx => lhs; whnf
      subst hx
      simp only [upd, ins, Nat.reduceEqDiff, ↓reduceIte] at ih ⊢
      exact key ih
    · rintro τ ⟨j, p, a, b, L, hI, _⟩
      have := hI.n
      omega
end Go.Proofs
