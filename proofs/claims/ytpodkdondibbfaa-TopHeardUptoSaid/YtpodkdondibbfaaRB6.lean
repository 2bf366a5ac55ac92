/- Texts of a proof: lemmas. -/
import Derived.Test.YtpodkdondibbfaaRB5
set_option linter.unusedSimpArgs false
set_option linter.unusedVariables false
set_option maxRecDepth 100000
namespace Go.Proofs
open Go Go.Mu

def heardAwake_s : List AV → Option AV
  | [] => some (.bool true)
  | _ => none
theorem heardAwake_ok : ∀ xs v, heardAwake_s xs = some v → PureV Try.prog 16 xs v := by
  intro xs v h
  unfold heardAwake_s at h
  split at h
  · simp only [Option.some.injEq] at h; subst h; exact heardAwake_p
  · cases h
def jobV (j : Jb) (e : Ear) : Option AV := match tonesL e with
  | ([x], 0) => if e.tones.length ≤ 4294967296 ∧ e.rds.length ≤ 4294967296 ∧ bigR x ∧ OkJ (j.at (ptR x)) then some (.tup [(j.at (ptR x)).av, .bool true]) else none
  | _ => none
def job_s := spec2 tJb tEar jobV
theorem job_ok : ∀ xs v, job_s xs = some v → PureV Try.prog 12 xs v := by
  refine spec2_ok fun j e v h => ?_
  unfold jobV at h
  split at h
  · rename_i x hx
    have h := someIf h
    rw [← h.2]
    exact job_p j e h.1.1 h.1.2.1 x hx h.1.2.2.1 h.1.2.2.2
  · cases h
theorem jobV_one {j : Jb} {e : Ear} {x : Rng} (hx : tonesL e = ([x], 0)) (h1 : e.tones.length ≤ 4294967296) (h2 : e.rds.length ≤ 4294967296) (hb : bigR x) (hj : OkJ (j.at (ptR x))) : jobV j e = some (.tup [(j.at (ptR x)).av, .bool true]) := by
  unfold jobV
  rw [hx]
  simp only
  rw [if_pos ⟨h1, h2, hb, hj⟩]
def fs211 (f : FuncId) (xs : List AV) : Option AV := if f = 16 then heardAwake_s xs else if f = 12 then job_s xs else fs210 f xs
theorem fs211_ok : ∀ f xs v, fs211 f xs = some v → PureV Try.prog f xs v := by
  intro f xs v h
  unfold fs211 at h
  split at h
  · rename_i e; subst e; exact heardAwake_ok _ _ h
  split at h
  · rename_i e; subst e; exact job_ok _ _ h
  exact fs210_ok _ _ _ h
attribute [go_sem] fs211 heardAwake_s job_s
set_option maxHeartbeats 400000000 in
theorem topHeard_c (nums : List Int) (hl : nums.length ≤ 4294967296) (σ : List AObj) : ACalls Try.prog 3 [.list .no 1 (nums.map (.int .i64))] σ (fun v _ => v = .bool true) := by
  refine ACalls.of_ev (E := Try.E 160 Try.ord3 fs211) (Try.envOK 160 Try.ord3 fs211 fs211_ok) Try.kp3 Try.func3 rfl (by kernel_rfl) (by simp [Try.E]) (Callable.of Try.func3 (by kernel_rfl) (by kernel_rfl)) (by kernel_rfl) ?_
  simp -implicitDefEqProofs (maxSteps := 2000000) (disch := omega) only [go_sem, reduceCtorEq, Nat.reduceAdd, Nat.reduceSub, Nat.reduceMul, Nat.reduceLT, Nat.reduceLeDiff, Nat.reduceEqDiff, Nat.reduceBEq, Int.reduceToNat, Int.reduceLT, Int.reduceLE, Int.reduceEq, Int.reduceNeg, Int.reduceAdd, Int.reduceSub, Int.reduceMul, ↓reduceIte, Int.reduceBEq, Int.reduceBNe]
  refine newPot_c nums .no hl σ _ fun s0 J0 => ?_
  have hp : PotAt (σ ++ (.cells [.int .u64 s0] :: J0)) σ.length := ⟨s0, hget_at0⟩
  have hr := hp.lt
  generalize σ ++ (.cells [.int .u64 s0] :: J0) = σ1 at hp hr ⊢
  generalize σ.length = r at hp hr ⊢
  simp -implicitDefEqProofs (maxSteps := 2000000) (disch := omega) only [go_sem, reduceCtorEq, Nat.reduceAdd, Nat.reduceSub, Nat.reduceMul, Nat.reduceLT, Nat.reduceLeDiff, Nat.reduceEqDiff, Nat.reduceBEq, Int.reduceToNat, Int.reduceLT, Int.reduceLE, Int.reduceEq, Int.reduceNeg, Int.reduceAdd, Int.reduceSub, Int.reduceMul, ↓reduceIte, Int.reduceBEq, Int.reduceBNe]
  refine jobOf_c r 0 (by omega) _ hp _ fun s1 j J1 hj => ?_
  have hp2 : PotAt (pw σ1 r s1 ++ J1) r := (hp.pw _).app
  generalize pw σ1 r s1 ++ J1 = σ2 at hp2 ⊢
  have hr2 := hp2.lt
  clear hp hr
  simp only [Jb.av, Jb.cells]
  simp -implicitDefEqProofs (maxSteps := 2000000) (disch := omega) only [go_sem, reduceCtorEq, Nat.reduceAdd, Nat.reduceSub, Nat.reduceMul, Nat.reduceLT, Nat.reduceLeDiff, Nat.reduceEqDiff, Nat.reduceBEq, Int.reduceToNat, Int.reduceLT, Int.reduceLE, Int.reduceEq, Int.reduceNeg, Int.reduceAdd, Int.reduceSub, Int.reduceMul, ↓reduceIte, Int.reduceBEq, Int.reduceBNe, length_pw, hget_pw0, hget_pw, hset_pw0, hset_pw]
  refine upto_c r 1 (by omega) _ hp2.app _ fun s2 m m1 m2 => ?_
  rw [pw_app hr2]
  have hm : 0 ≤ m ∧ m ≤ 1 := by omega
  clear m1 m2
  simp -implicitDefEqProofs (maxSteps := 2000000) (disch := omega) only [go_sem, reduceCtorEq, Nat.reduceAdd, Nat.reduceSub, Nat.reduceMul, Nat.reduceLT, Nat.reduceLeDiff, Nat.reduceEqDiff, Nat.reduceBEq, Int.reduceToNat, Int.reduceLT, Int.reduceLE, Int.reduceEq, Int.reduceNeg, Int.reduceAdd, Int.reduceSub, Int.reduceMul, ↓reduceIte, Int.reduceBEq, Int.reduceBNe, length_pw, hget_pw0, hget_pw, hset_pw0, hset_pw]
  refine within_c r (-8) 8 (by omega) (by omega) _ (hp2.pw _).app _ fun s3 x y1 y2 => ?_
  rw [pw_pwa hr2]
  have hx : -8 ≤ x ∧ x ≤ 8 := by omega
  clear y1 y2
  simp -implicitDefEqProofs (maxSteps := 2000000) (disch := omega) only [go_sem, reduceCtorEq, Nat.reduceAdd, Nat.reduceSub, Nat.reduceMul, Nat.reduceLT, Nat.reduceLeDiff, Nat.reduceEqDiff, Nat.reduceBEq, Int.reduceToNat, Int.reduceLT, Int.reduceLE, Int.reduceEq, Int.reduceNeg, Int.reduceAdd, Int.reduceSub, Int.reduceMul, ↓reduceIte, Int.reduceBEq, Int.reduceBNe, length_pw, hget_pw0, hget_pw, hset_pw0, hset_pw]
  obtain ⟨tn, htn⟩ : ∃ tn, tn = 44000 + x := ⟨_, rfl⟩
  rw [← htn]
  have ht : 43992 ≤ tn ∧ tn ≤ 44008 := by omega
  clear htn hx
  refine nearZ_c r tn 1 100000 6 (by omega) (by omega) _ (hp2.pw _).app _ fun s4 a b c1 c2 c3 c4 c5 c6 J2 => ?_
  rw [pw_pwa hr2, List.append_assoc]
  have hjg : hget (pw σ2 r s4 ++ ([.cells (Jb.cells { j with meter := m })] ++ J2)) σ2.length = some (.cells (Jb.cells { j with meter := m })) := by rw [hget_pw0]; rfl
  have hp3 : PotAt (pw σ2 r s4 ++ ([.cells (Jb.cells { j with meter := m })] ++ J2)) r := (hp2.pw _).app
  have hj2 : OkJ { j with meter := m } := by obtain ⟨h1, h2, h3, h4, h5, h6, h7, h8, h9, h10, h11, h12⟩ := hj.ok; exact ⟨h1, h2, h3, h4, h5, h6, h7, h8, h9, h10, h11, by simp only; omega⟩
  have hjm : ∃ jm, OkJ jm ∧ hget (pw σ2 r s4 ++ ([.cells (Jb.cells { j with meter := m })] ++ J2)) σ2.length = some (.cells (Jb.cells jm)) := ⟨_, hj2, hjg⟩
  clear hjg hj2
  have hne : σ2.length ≠ r := by omega
  obtain ⟨rj, hrj⟩ : ∃ rj, rj = σ2.length := ⟨_, rfl⟩
  rw [← hrj] at hjm hne ⊢
  obtain ⟨jm, hj2, hjg⟩ := hjm
  simp only [Jb.cells] at hjg hp3
  generalize pw σ2 r s4 ++ ([_] ++ J2) = σ3 at hjg hp3 ⊢
  have hr3 := hp3.lt
  clear hp2 hr2 hrj
  simp -implicitDefEqProofs (maxSteps := 2000000) (disch := omega) only [go_sem, reduceCtorEq, Nat.reduceAdd, Nat.reduceSub, Nat.reduceMul, Nat.reduceLT, Nat.reduceLeDiff, Nat.reduceEqDiff, Nat.reduceBEq, Int.reduceToNat, Int.reduceLT, Int.reduceLE, Int.reduceEq, Int.reduceNeg, Int.reduceAdd, Int.reduceSub, Int.reduceMul, ↓reduceIte, Int.reduceBEq, Int.reduceBNe, length_pw, hget_pw0, hget_pw, hset_pw0, hset_pw, Rng.av]
  refine upto_c r 2 (by omega) _ hp3.app _ fun s5 q q1 q2 => ?_
  rw [pw_app hr3]
  have hq : 0 ≤ q ∧ q ≤ 2 := by omega
  clear q1 q2
  simp -implicitDefEqProofs (maxSteps := 2000000) (disch := omega) only [go_sem, reduceCtorEq, Nat.reduceAdd, Nat.reduceSub, Nat.reduceMul, Nat.reduceLT, Nat.reduceLeDiff, Nat.reduceEqDiff, Nat.reduceBEq, Int.reduceToNat, Int.reduceLT, Int.reduceLE, Int.reduceEq, Int.reduceNeg, Int.reduceAdd, Int.reduceSub, Int.reduceMul, ↓reduceIte, Int.reduceBEq, Int.reduceBNe, length_pw, hget_pw0, hget_pw, hset_pw0, hset_pw, Rng.av]
  have hab : 1 ≤ a ∧ a ≤ tn ∧ tn ≤ b ∧ tn - 6 ≤ a ∧ b ≤ tn + 6 := by omega
  clear c1 c2 c3 c4 c5 c6 hj hm
  refine ARun.ghostK σ3.length 2 6 (by rw [hget_pw0]; rfl) rfl ?_
  simp only [hset_pw0, List.set_cons_succ, List.set_cons_zero, List.append_assoc, List.cons_append, List.nil_append, List.length_append, List.length_cons, List.length_nil, Nat.zero_add, Nat.reduceAdd, length_pw]
  have hE : ∀ L : List Rd, L.length ≤ 2 → (∀ y ∈ L, ckR y 1 = 0 ∧ isR y 0 [tn] = true) → EarP 1 2 6 ⟨0, [⟨a, b⟩], L⟩ [tn] := fun L hL hy => by
    refine ⟨?_, rfl, by simp, by simp, by simp only; omega, by simp, fun i h h' => ?_, fun x hx => ?_, fun y h => (hy y h).2⟩
    · have f2 : firstE (fun r => ckR r 1) L = 0 := firstE_zero fun i hi => (hy _ (List.getElem_mem hi)).1
      have f1 : firstE ckT [⟨a, b⟩] = 0 := by simp only [firstE, ckT]; grind
      simp only [ck, List.length_singleton]
      have f2' : firstE (fun r => ckR r ((1 : Nat) : Int)) L = 0 := f2
      grind
    · have : i = 0 := by simp at h; omega
      subst this
      simp only [List.getElem_cons_zero]; omega
    · simp at hx; omega
  refine ARun.loopJ (Try.envOK 160 Try.ord3 fs211 fs211_ok) (α := Nat × List Rd) (fun p => q.toNat - p.1)
    (fun p τ => (∃ s j, τ = pw σ3 r s ++ (.cells [.int .i64 0, .list .full 2 [.agg [.int .i64 a, .int .i64 b]], .list (.own (σ3.length + 1)) 6 (p.2.map Rd.av)] :: .tail p.2.length 6 :: j)) ∧ (p.1 : Int) ≤ q ∧ p.2.length = p.1 ∧ ∀ y ∈ p.2, ckR y 1 = 0 ∧ isR y 0 [tn] = true)
    (fun p => [(7, .int .i64 (q - p.1))]) (0, []) (by kernel_rfl) (by simp [upd, ins, subF, lookA]) ⟨⟨s5, [], by simp⟩, by simp; omega, rfl, by simp⟩ ?_
  rintro ⟨k, L⟩ τ ⟨⟨s6, J, rfl⟩, hk, hL, hy⟩ ih
  simp only at hk hL hy ih
  have hrd : ∀ (s : Int) (J : List AObj) (Q : AV → List AObj → Prop), (∀ s' y junk, ckR y 1 = 0 → isR y 0 [tn] = true → Q y.av (pw σ3 r s' ++ (.cells [.int .i64 0, .list .full 2 [.agg [.int .i64 a, .int .i64 b]], .list (.own (σ3.length + 1)) 6 (L.map Rd.av)] :: .tail L.length 6 :: (J ++ junk)))) →
      ACalls Try.prog 10 [.ptr r 0, .agg [.int .i64 0, .list .full 2 [.agg [.int .i64 a, .int .i64 b]], .list (.own (σ3.length + 1)) 6 (L.map Rd.av)], .list .full 1 [.int .i64 tn]] (pw σ3 r s ++ (.cells [.int .i64 0, .list .full 2 [.agg [.int .i64 a, .int .i64 b]], .list (.own (σ3.length + 1)) 6 (L.map Rd.av)] :: .tail L.length 6 :: J)) Q := fun s J Q hQ => by
    refine ACalls.weaken (l' := [.ptr r 0, (⟨0, [⟨a, b⟩], L⟩ : Ear).av, .list .full 1 ([tn].map (.int .i64))]) ⟨rfl, ⟨rfl, ⟨rfl, .inl rfl, .inl rfl⟩, ⟨rfl, .inl rfl, .inl rfl⟩, trivial⟩, ⟨rfl, .inl rfl, .inr rfl⟩, trivial⟩ (readingOf_c r ⟨0, [⟨a, b⟩], L⟩ [tn] .full (by simp) (by simp) (by simp; omega) _ (hp3.pw _).app _ fun s' y junk g1 g2 => ?_)
    rw [pw_pwa hr3]
    simpa using hQ s' y junk g1 g2
  by_cases hlt : (k : Int) < q
  · simp -implicitDefEqProofs (maxSteps := 2000000) (disch := omega) only [go_sem, reduceCtorEq, Nat.reduceAdd, Nat.reduceSub, Nat.reduceMul, Nat.reduceLT, Nat.reduceLeDiff, Nat.reduceEqDiff, Nat.reduceBEq, Int.reduceToNat, Int.reduceLT, Int.reduceLE, Int.reduceEq, Int.reduceNeg, Int.reduceAdd, Int.reduceSub, Int.reduceMul, ↓reduceIte, Int.reduceBEq, Int.reduceBNe, length_pw, hget_pw0, hget_pw, hset_pw0, hset_pw]
    refine hrd _ _ _ fun s7 y J7 g1 g2 => ?_
    simp -implicitDefEqProofs (maxSteps := 2000000) (disch := omega) only [go_sem, reduceCtorEq, Nat.reduceAdd, Nat.reduceSub, Nat.reduceMul, Nat.reduceLT, Nat.reduceLeDiff, Nat.reduceEqDiff, Nat.reduceBEq, Int.reduceToNat, Int.reduceLT, Int.reduceLE, Int.reduceEq, Int.reduceNeg, Int.reduceAdd, Int.reduceSub, Int.reduceMul, ↓reduceIte, Int.reduceBEq, Int.reduceBNe, length_pw, hget_pw0, hget_pw, hset_pw0, hset_pw, Rd.av]
    refine (ih (k + 1, L ++ [y]) _ (by simp only; omega) ⟨⟨s7, J ++ J7, rfl⟩, by simp only; omega, by simp [hL], fun z hz => ?_⟩).castS (by simp [Rd.av]) (by simp [upd, ins, subF, lookA]; omega)
    rcases List.mem_append.1 hz with hz | hz
    · exact hy z hz
    · simp at hz; subst hz; exact ⟨g1, g2⟩
  · clear ih
    simp -implicitDefEqProofs (maxSteps := 2000000) (disch := omega) only [go_sem, reduceCtorEq, Nat.reduceAdd, Nat.reduceSub, Nat.reduceMul, Nat.reduceLT, Nat.reduceLeDiff, Nat.reduceEqDiff, Nat.reduceBEq, Int.reduceToNat, Int.reduceLT, Int.reduceLE, Int.reduceEq, Int.reduceNeg, Int.reduceAdd, Int.reduceSub, Int.reduceMul, ↓reduceIte, Int.reduceBEq, Int.reduceBNe, length_pw, hget_pw0, hget_pw, hset_pw0, hset_pw]
    refine hrd _ _ _ fun s7 y J7 g1 g2 => ?_
    have hL2 : L.length ≤ 2 := by omega
    have E1 := hE L hL2 hy
    obtain ⟨E2, hW, hin⟩ := one_more E1 (by omega) g1 (by simpa using g2)
    obtain ⟨x1, hx1, hxe1, u1, u2, u3⟩ := one_tones E1
    obtain ⟨x2, hx2, hxe2, v1, v2, v3⟩ := one_tones E2
    rw [← hxe1, ← hxe2] at hin
    clear hxe1 hxe2 E1 E2 hE hrd
    have oj : ∀ x : Rng, tn - 6 ≤ x.lo → x.lo ≤ x.hi → x.hi ≤ tn + 6 → OkJ (jm.at (ptR x)) := fun x w1 w2 w3 => by
      obtain ⟨h1, h2, h3, h4, h5, h6, h7, h8, h9, h10, h11, h12⟩ := hj2
      exact ⟨⟨by show -60 ≤ x.lo - 44000; omega, by show x.lo - 44000 ≤ x.hi - 44000; omega, by show x.hi - 44000 ≤ 60; omega⟩, h2, h3, h4, h5, h6, h7, h8, h9, h10, h11, h12⟩
    have o1 := oj x1 u1 u2 u3
    have o2 := oj x2 v1 v2 v3
    have V1 : jobV jm ⟨0, [⟨a, b⟩], L⟩ = _ := jobV_one hx1 (by simp) (by simp only; omega) ⟨by omega, by omega⟩ o1
    have V2 : jobV jm ⟨0, [⟨a, b⟩], L ++ [y]⟩ = _ := jobV_one hx2 (by simp) (by simp; omega) ⟨by omega, by omega⟩ o2
    have hpin : inR (ptR x1) (ptR x2) := ⟨by show x1.lo - 44000 ≤ x2.lo - 44000; have := hin.1; omega, by show x2.hi - 44000 ≤ x1.hi - 44000; have := hin.2; omega⟩
    have hp2 : (ptR x2).lo ≤ (ptR x2).hi := by show x2.lo - 44000 ≤ x2.hi - 44000; omega
    have hv : passS (jm.at (ptR x1)) (ptR x1) ≠ 3 → passS (jm.at (ptR x2)) (ptR x2) = passS (jm.at (ptR x1)) (ptR x1) := fun h => pass_mono hj2 hpin hp2 h
    have hgm : ∀ n, guidedS (jm.at (ptR x1)) = some n → ∃ m, guidedS (jm.at (ptR x2)) = some m ∧ m ≤ n := fun n h => guided_mono hpin h
    have hhas : hasR (ptR x1) (ptR x2) = true := by simp only [hasR, decide_eq_true_eq]; exact hpin
    have ea : (jm.at (ptR x1)).pitch = ptR x1 := rfl
    have eb : (jm.at (ptR x2)).pitch = ptR x2 := rfl
    have k1 : hget (pw σ3 r s7 ++ (.cells [.int .i64 0, .list .full 2 [.agg [.int .i64 a, .int .i64 b]], .list (.own (σ3.length + 1)) 6 (L.map Rd.av)] :: .tail L.length 6 :: (J ++ J7))) σ3.length = some (.cells [.int .i64 0, .list .full 2 [.agg [.int .i64 a, .int .i64 b]], .list (.own (σ3.length + 1)) 6 (L.map Rd.av)]) := by rw [hget_pw0]; rfl
    have k2 := (pw_get (l := .cells [.int .i64 0, .list .full 2 [.agg [.int .i64 a, .int .i64 b]], .list (.own (σ3.length + 1)) 6 (L.map Rd.av)] :: .tail L.length 6 :: (J ++ J7)) (s := s7) (hget_lt hjg) hne).trans hjg
    obtain ⟨ow, how⟩ : ∃ ow, ow = σ3.length + 1 := ⟨_, rfl⟩
    obtain ⟨re, hre⟩ : ∃ re, re = σ3.length := ⟨_, rfl⟩
    rw [← how, ← hre] at k1
    rw [← how] at k2
    rw [← how, ← hre]
    generalize pw σ3 r s7 ++ _ = σ4 at k1 k2 ⊢
    generalize jm.at (ptR x1) = A at o1 V1 hv hgm ea
    generalize jm.at (ptR x2) = B at o2 V2 hv hgm eb
    rw [← ea, ← eb] at hv
    rw [← ea, ← eb] at hhas
    clear how hre hjg hp3 hr3 hne oj hpin hp2 hin ea eb hx1 hx2
    have q1 : ∀ l, hget (σ4 ++ l) re = _ := fun l => (hget_app (hget_lt k1)).trans k1
    have q2 : ∀ l, hget (σ4 ++ l) rj = _ := fun l => (hget_app (hget_lt k2)).trans k2
    simp only [Rd.av]
    have hAa : A.av = .agg A.cells := rfl
    have hBa : B.av = .agg B.cells := rfl
    simp only [Jb.cells] at hAa hBa
    simp -implicitDefEqProofs (maxSteps := 2000000) (disch := omega) only [go_sem, reduceCtorEq, Nat.reduceAdd, Nat.reduceSub, Nat.reduceMul, Nat.reduceLT, Nat.reduceLeDiff, Nat.reduceEqDiff, Nat.reduceBEq, Int.reduceToNat, Int.reduceLT, Int.reduceLE, Int.reduceEq, Int.reduceNeg, Int.reduceAdd, Int.reduceSub, Int.reduceMul, ↓reduceIte, Int.reduceBEq, Int.reduceBNe, k1, k2, q1, q2, hW, V1, V2, hAa, hBa, Ear.av, Jb.cells, o1, o2, hhas, Rng_eta, Rng.av]
    refine guided_c o1 _ _ fun JA => ?_
    have ga : (optV (guidedS A)).2 = 0 ∨ (optV (guidedS A)).2 = 11 := by cases guidedS A <;> simp [optV]
    have gb : (optV (guidedS B)).2 = 0 ∨ (optV (guidedS B)).2 = 11 := by cases guidedS B <;> simp [optV]
    have gab : (optV (guidedS A)).2 = 0 → (optV (guidedS B)).2 = 0 ∧ (optV (guidedS B)).1 ≤ (optV (guidedS A)).1 := fun h => by
      cases hA : guidedS A with
      | none => rw [hA] at h; simp [optV] at h
      | some n =>
        obtain ⟨m, hm, hmn⟩ := hgm n hA
        rw [hm]
        exact ⟨rfl, by show (m : Int) ≤ (n : Int); omega⟩
    clear hgm V1 V2 hW hhas k1 k2 q1 q2 hj2 o1 hAa hBa
    generalize (optV (guidedS A)).1 = a1 at gab ⊢
    generalize (optV (guidedS A)).2 = a2 at ga gab ⊢
    generalize passS A A.pitch = v at hv ⊢
    generalize passS B B.pitch = w at hv ⊢
    simp -implicitDefEqProofs (maxSteps := 2000000) (disch := omega) only [go_sem, reduceCtorEq, Nat.reduceAdd, Nat.reduceSub, Nat.reduceMul, Nat.reduceLT, Nat.reduceLeDiff, Nat.reduceEqDiff, Nat.reduceBEq, Int.reduceToNat, Int.reduceLT, Int.reduceLE, Int.reduceEq, Int.reduceNeg, Int.reduceAdd, Int.reduceSub, Int.reduceMul, ↓reduceIte, Int.reduceBEq, Int.reduceBNe]
    refine guided_c o2 _ _ fun JB => ?_
    generalize (optV (guidedS B)).1 = b1 at gab ⊢
    generalize (optV (guidedS B)).2 = b2 at gb gab ⊢
    clear o2
    generalize σ4 ++ _ ++ _ = σ5
    rcases ga with rfl | rfl
    · obtain ⟨rfl, hba⟩ := gab rfl
      by_cases hv3 : v = 3
      · simp -implicitDefEqProofs (maxSteps := 2000000) (disch := omega) only [go_sem, reduceCtorEq, Nat.reduceAdd, Nat.reduceSub, Nat.reduceMul, Nat.reduceLT, Nat.reduceLeDiff, Nat.reduceEqDiff, Nat.reduceBEq, Int.reduceToNat, Int.reduceLT, Int.reduceLE, Int.reduceEq, Int.reduceNeg, Int.reduceAdd, Int.reduceSub, Int.reduceMul, ↓reduceIte, Int.reduceBEq, Int.reduceBNe, hv3, hba]
      · have hwv := hv hv3
        subst hwv
        simp -implicitDefEqProofs (maxSteps := 2000000) (disch := omega) only [go_sem, reduceCtorEq, Nat.reduceAdd, Nat.reduceSub, Nat.reduceMul, Nat.reduceLT, Nat.reduceLeDiff, Nat.reduceEqDiff, Nat.reduceBEq, Int.reduceToNat, Int.reduceLT, Int.reduceLE, Int.reduceEq, Int.reduceNeg, Int.reduceAdd, Int.reduceSub, Int.reduceMul, ↓reduceIte, Int.reduceBEq, Int.reduceBNe, hv3, hba]
    · clear gab
      rcases gb with rfl | rfl
      · by_cases hv3 : v = 3
        · simp -implicitDefEqProofs (maxSteps := 2000000) (disch := omega) only [go_sem, reduceCtorEq, Nat.reduceAdd, Nat.reduceSub, Nat.reduceMul, Nat.reduceLT, Nat.reduceLeDiff, Nat.reduceEqDiff, Nat.reduceBEq, Int.reduceToNat, Int.reduceLT, Int.reduceLE, Int.reduceEq, Int.reduceNeg, Int.reduceAdd, Int.reduceSub, Int.reduceMul, ↓reduceIte, Int.reduceBEq, Int.reduceBNe, hv3]
        · have hwv := hv hv3
          subst hwv
          simp -implicitDefEqProofs (maxSteps := 2000000) (disch := omega) only [go_sem, reduceCtorEq, Nat.reduceAdd, Nat.reduceSub, Nat.reduceMul, Nat.reduceLT, Nat.reduceLeDiff, Nat.reduceEqDiff, Nat.reduceBEq, Int.reduceToNat, Int.reduceLT, Int.reduceLE, Int.reduceEq, Int.reduceNeg, Int.reduceAdd, Int.reduceSub, Int.reduceMul, ↓reduceIte, Int.reduceBEq, Int.reduceBNe, hv3]
      · by_cases hv3 : v = 3
        · simp -implicitDefEqProofs (maxSteps := 2000000) (disch := omega) only [go_sem, reduceCtorEq, Nat.reduceAdd, Nat.reduceSub, Nat.reduceMul, Nat.reduceLT, Nat.reduceLeDiff, Nat.reduceEqDiff, Nat.reduceBEq, Int.reduceToNat, Int.reduceLT, Int.reduceLE, Int.reduceEq, Int.reduceNeg, Int.reduceAdd, Int.reduceSub, Int.reduceMul, ↓reduceIte, Int.reduceBEq, Int.reduceBNe, hv3]
        · have hwv := hv hv3
          subst hwv
          simp -implicitDefEqProofs (maxSteps := 2000000) (disch := omega) only [go_sem, reduceCtorEq, Nat.reduceAdd, Nat.reduceSub, Nat.reduceMul, Nat.reduceLT, Nat.reduceLeDiff, Nat.reduceEqDiff, Nat.reduceBEq, Int.reduceToNat, Int.reduceLT, Int.reduceLE, Int.reduceEq, Int.reduceNeg, Int.reduceAdd, Int.reduceSub, Int.reduceMul, ↓reduceIte, Int.reduceBEq, Int.reduceBNe, hv3]
end Go.Proofs
