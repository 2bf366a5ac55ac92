/- Texts of a proof: lemmas. -/
import Derived.Test.YtbkjffpembflcaaGreatA34
import Derived.Test.YtbkjffpembflcaaGreatMu3
set_option linter.unusedSimpArgs false
set_option linter.unusedVariables false
set_option maxRecDepth 100000
namespace Go.Proofs
open Go Go.Mu

theorem truths_f (e : Ear) (he : OkE e) (σ : List AObj) (Q : AV → List AObj → Prop) (h : ∀ junk, 2 ≤ junk.length → IterF Tryz.prog 90 [] [.ptr σ.length 0, .ptr (σ.length + 1) 0] (fun k => k = σ.length ∨ k = σ.length + 1) (σ ++ junk) ((truthsL e).map tav) → Q (.fn (.func 90) [] [.ptr σ.length 0, .ptr (σ.length + 1) 0]) (σ ++ junk)) :
    ACalls Tryz.prog 50 [e.av] σ Q := by
  refine ACalls.of_ev (E := Tryz.E 22 Tryz.ord50 fs5) (Tryz.envOK 22 Tryz.ord50 fs5 fs5_ok) Tryz.kp50 Tryz.func50 rfl (by kernel_rfl) (by simp [Tryz.E]) (Callable.of Tryz.func50 (by kernel_rfl) (by kernel_rfl)) (by kernel_rfl) ?_
  have hrl := he.rl
  simp only [Ear.av]
  simp -implicitDefEqProofs (maxSteps := 2000000) (disch := omega) only [go_sem, reduceCtorEq, Nat.reduceAdd, Nat.reduceSub, Nat.reduceMul, Nat.reduceLT, Nat.reduceLeDiff, Nat.reduceEqDiff, Nat.reduceBEq, Int.reduceToNat, Int.reduceLT, Int.reduceLE, Int.reduceEq, Int.reduceNeg, Int.reduceAdd, Int.reduceSub, Int.reduceMul, ↓reduceIte, Int.reduceBEq, Int.reduceBNe]
  refine ARun.ghostC (σ.length + 1) 1 (sz0 := 0) (by simp [hget_at]) ?_
  simp only [hset_at, List.set_cons_succ, List.set_cons_zero, List.append_assoc, List.cons_append, List.nil_append, List.length_append, List.length_cons, List.length_nil, Nat.zero_add]
  refine ARun.forS (Tryz.envOK 22 Tryz.ord50 fs5 fs5_ok) e.rds.length (fun _ => True) (fun i => [(9, .int .i64 i)]) (fun i j => σ ++ (.cells e.cells :: .cells [.list (.own (σ.length + 2)) 1 ((e.rds.take i).map fun r => rdv r e.slack)] :: .tail i 1 :: j)) [] (by kernel_rfl) (by simp [Ear.cells]) (by simp [upd, ins, subF, lookA]) trivial ?_ ?_
  · intro i j hi _ ih
    have hcl : ∀ r, (rdv r e.slack).cells = [rdv r e.slack] := fun r => by unfold rdv; split; rfl; split <;> rfl
    have hfl : ∀ r, (rdv r e.slack).flat = true := fun r => by unfold rdv; split; rfl; split <;> rfl
    have htl : (List.take i e.rds).length = i := by rw [List.length_take]; omega
    simp -implicitDefEqProofs (maxSteps := 2000000) (disch := omega) only [go_sem, reduceCtorEq, Nat.reduceAdd, Nat.reduceSub, Nat.reduceMul, Nat.reduceLT, Nat.reduceLeDiff, Nat.reduceEqDiff, Nat.reduceBEq, Int.reduceToNat, Int.reduceLT, Int.reduceLE, Int.reduceEq, Int.reduceNeg, Int.reduceAdd, Int.reduceSub, Int.reduceMul, ↓reduceIte, Int.reduceBEq, Int.reduceBNe, Ear.cells, Rd.av, hcl, hfl, htl, giveB_rdv]
    refine (ih trivial (j ++ [_])).castS (by rw [List.take_succ_eq_append_getElem hi, List.map_append]; rfl) (by simp [upd, ins, subF, lookA])
  · intro j _
    simp -implicitDefEqProofs (maxSteps := 2000000) (disch := omega) only [go_sem, reduceCtorEq, Nat.reduceAdd, Nat.reduceSub, Nat.reduceMul, Nat.reduceLT, Nat.reduceLeDiff, Nat.reduceEqDiff, Nat.reduceBEq, Int.reduceToNat, Int.reduceLT, Int.reduceLE, Int.reduceEq, Int.reduceNeg, Int.reduceAdd, Int.reduceSub, Int.reduceMul, ↓reduceIte, Int.reduceBEq, Int.reduceBNe, Ear.cells]
    refine h _ (by simp) fun r T σ' hk hC => ?_
    have := truths1_c e he T (re := σ.length) (rl := σ.length + 1) (τ := σ') (by rw [(hk _ (.inl rfl)).1]; simp [hget_at0, Ear.cells]) ⟨_, by rw [(hk _ (.inr rfl)).1, hget_at, List.take_length]; rfl⟩ ⟨(hk _ (.inl rfl)).2, (hk _ (.inr rfl)).2⟩ hC rfl
    simpa using this
/-- How many truths there are. -/
def truthsN (e : Ear) : Int × Int := if ck e = 0 then ((truthsL e).length, 0) else (0, ck e)
theorem truthsN_p (e : Ear) (h1 : e.tones.length ≤ 4294967296) (h2 : e.rds.length ≤ 4294967296) : PureV Tryz.prog 12 [e.av] (.tup [.int .i64 (truthsN e).1, .int .i64 (truthsN e).2]) := by
  refine PureV.of_ev (E := Tryz.E 17 (fun _ => ([], [])) fs18) (Tryz.envOK 17 (fun _ => ([], [])) fs18 fs18_ok) (ii_plain) Tryz.kp12 Tryz.func12 rfl (by kernel_rfl) (by simp [Tryz.E]) (Callable.of Tryz.func12 (by kernel_rfl) (by kernel_rfl)) (by kernel_rfl) ?_
  intro σ
  simp only [Ear.av]
  by_cases hc : ck e = 0
  · have he := okE_of_ck hc
    have htl := truthsL_len he
    have hc' : ck ⟨e.slack, e.tones, e.rds⟩ = 0 := hc
    have hd : truthsN e = (((truthsL e).length : Int), 0) := by unfold truthsN; rw [if_pos hc]
    rw [hd]
    simp -implicitDefEqProofs (maxSteps := 2000000) (disch := omega) only [go_sem, reduceCtorEq, Nat.reduceAdd, Nat.reduceSub, Nat.reduceMul, Nat.reduceLT, Nat.reduceLeDiff, Nat.reduceEqDiff, Nat.reduceBEq, Int.reduceToNat, Int.reduceLT, Int.reduceLE, Int.reduceEq, Int.reduceNeg, Int.reduceAdd, Int.reduceSub, Int.reduceMul, ↓reduceIte, Int.reduceBEq, Int.reduceBNe, hc']
    refine truths_f e he _ _ fun junk hj hI => ?_
    simp only [List.append_assoc, List.cons_append, List.nil_append, List.length_append, List.length_cons, List.length_nil, Nat.zero_add, Nat.reduceAdd, Nat.add_assoc] at hI ⊢
    simp -implicitDefEqProofs (maxSteps := 2000000) (disch := omega) only [go_sem, reduceCtorEq, Nat.reduceAdd, Nat.reduceSub, Nat.reduceMul, Nat.reduceLT, Nat.reduceLeDiff, Nat.reduceEqDiff, Nat.reduceBEq, Int.reduceToNat, Int.reduceLT, Int.reduceLE, Int.reduceEq, Int.reduceNeg, Int.reduceAdd, Int.reduceSub, Int.reduceMul, ↓reduceIte, Int.reduceBEq, Int.reduceBNe]
    refine ARun.rangeIterF (g := 90) (p := []) (L := (truthsL e).map tav) (by simp [aeval, Fr.get, lookA, Tryz.kp12]) hI (fun k hk => ⟨rfl, by simp; omega⟩) ⟨13, rfl, by simp [Tryz.EN]⟩
      (fun k => k = σ.length + 1) (fun k hk => ⟨by omega, by simp; omega⟩) (fun D τ => hget τ (σ.length + 1) = some (.cells [.int .i64 D.length])) (fun _ _ => False)
      (by simp [hget_at]) (fun {D τ τ'} hc hk => by rw [hk _ rfl]; exact hc) (fun {j τ τ'} hc _ => hc) ?_ ?_ (fun τ j _ _ hc => hc.elim)
    · rintro D v R fn τ hD c1 hlt hrec
      have hDl : D.length + 1 ≤ 4294967296 := by have := congrArg List.length hD; simp at this; omega
      refine ev_sound (Tryz.envOK 17 (fun _ => ([], [])) fs18 fs18_ok) (n := 1000) (by kernel_rfl) ?_
      simp -implicitDefEqProofs (maxSteps := 2000000) (disch := omega) only [go_sem, reduceCtorEq, Nat.reduceAdd, Nat.reduceSub, Nat.reduceMul, Nat.reduceLT, Nat.reduceLeDiff, Nat.reduceEqDiff, Nat.reduceBEq, Int.reduceToNat, Int.reduceLT, Int.reduceLE, Int.reduceEq, Int.reduceNeg, Int.reduceAdd, Int.reduceSub, Int.reduceMul, ↓reduceIte, Int.reduceBEq, Int.reduceBNe, frIn]
      refine ARun.beginRound' (by simpa using hrec) fun τ2 hl2 hs2 hr2 => ?_
      simp only [List.length_append, List.length_cons, List.length_nil] at hlt hr2 hs2
      have k1 : hget τ2 (σ.length + 1) = some (.cells [.int .i64 D.length]) := by rw [hs2 _ (by omega)]; exact c1
      refine ev_sound (Tryz.envOK 17 (fun _ => ([], [])) fs18 fs18_ok) (n := 1000) (by kernel_rfl) ?_
      simp -implicitDefEqProofs (maxSteps := 2000000) (disch := omega) only [go_sem, reduceCtorEq, Nat.reduceAdd, Nat.reduceSub, Nat.reduceMul, Nat.reduceLT, Nat.reduceLeDiff, Nat.reduceEqDiff, Nat.reduceBEq, Int.reduceToNat, Int.reduceLT, Int.reduceLE, Int.reduceEq, Int.reduceNeg, Int.reduceAdd, Int.reduceSub, Int.reduceMul, ↓reduceIte, Int.reduceBEq, Int.reduceBNe, k1, hDl, hget_hset]
      exact ⟨⟨by rw [length_hset]; omega, fun q hq hm => by rw [hget_ne (by omega), hs2 q (by omega)]⟩, none, hr2⟩
    · rintro τ hlt hold c1
      refine ev_sound (Tryz.envOK 17 (fun _ => ([], [])) fs18 fs18_ok) (n := 1000) (by kernel_rfl) ?_
      simp -implicitDefEqProofs (maxSteps := 2000000) (disch := omega) only [go_sem, reduceCtorEq, Nat.reduceAdd, Nat.reduceSub, Nat.reduceMul, Nat.reduceLT, Nat.reduceLeDiff, Nat.reduceEqDiff, Nat.reduceBEq, Int.reduceToNat, Int.reduceLT, Int.reduceLE, Int.reduceEq, Int.reduceNeg, Int.reduceAdd, Int.reduceSub, Int.reduceMul, ↓reduceIte, Int.reduceBEq, Int.reduceBNe, c1]
      simp only [List.length_append, List.length_cons, List.length_nil] at hlt hold
      exact gives_same (by omega) (fun q hq => by rw [hold q (by omega) (by omega)]; exact hget_app hq) ⟨rfl, rfl, trivial⟩
  · have hc' : ¬ ck ⟨e.slack, e.tones, e.rds⟩ = 0 := hc
    have hd : truthsN e = (0, ck ⟨e.slack, e.tones, e.rds⟩) := by unfold truthsN; rw [if_neg hc]
    rw [hd]
    generalize hq : ck ⟨e.slack, e.tones, e.rds⟩ = q at hc'
    simp -implicitDefEqProofs (maxSteps := 2000000) (disch := omega) only [go_sem, reduceCtorEq, Nat.reduceAdd, Nat.reduceSub, Nat.reduceMul, Nat.reduceLT, Nat.reduceLeDiff, Nat.reduceEqDiff, Nat.reduceBEq, Int.reduceToNat, Int.reduceLT, Int.reduceLE, Int.reduceEq, Int.reduceNeg, Int.reduceAdd, Int.reduceSub, Int.reduceMul, ↓reduceIte, Int.reduceBEq, Int.reduceBNe, hq, hc']
def truthsN_s := spec1 tEar fun e => if e.tones.length ≤ 4294967296 ∧ e.rds.length ≤ 4294967296 then some (.tup [.int .i64 (truthsN e).1, .int .i64 (truthsN e).2]) else none
theorem truthsN_ok : ∀ xs v, truthsN_s xs = some v → PureV Tryz.prog 12 xs v :=
  spec1_ok fun e v h => by have h := someIf h; rw [← h.2]; exact truthsN_p e h.1.1 h.1.2
theorem ck_more {e : Ear} {r : Rd} (hc : ck e = 0) (hr : ckR r e.tones.length = 0) (hn : e.rds.length ≤ 5) : ck ⟨e.slack, e.tones, e.rds ++ [r]⟩ = 0 := by
  have h2 := firstE_all (f := fun r => ckR r e.tones.length) (l := e.rds) (by simp only [ck] at hc; grind)
  have h3 : firstE (fun r => ckR r e.tones.length) (e.rds ++ [r]) = 0 := firstE_zero fun i hi => by
    rcases List.mem_append.1 (List.getElem_mem hi) with hm | hm
    · exact h2 _ hm
    · simp at hm; rw [hm]; exact hr
  simp only [ck] at hc ⊢
  rw [h3, List.length_append]
  simp only [List.length_cons, List.length_nil]
  grind
def mayL (e : Ear) : Bool := !(truthsL e).isEmpty
theorem may_p (e : Ear) (hc : ck e = 0) : PureV Tryz.prog 97 [e.av] (.bool (mayL e)) := by
  refine PureV.of_ev (E := Tryz.E 6 (fun _ => ([], [])) fs18) (Tryz.envOK 6 (fun _ => ([], [])) fs18 fs18_ok) (.bool) Tryz.kp97 Tryz.func97 rfl (by kernel_rfl) (by simp [Tryz.E]) (Callable.of Tryz.func97 (by kernel_rfl) (by kernel_rfl)) (by kernel_rfl) ?_
  intro σ
  have he := okE_of_ck hc
  simp only [Ear.av]
  simp -implicitDefEqProofs (maxSteps := 2000000) (disch := omega) only [go_sem, reduceCtorEq, Nat.reduceAdd, Nat.reduceSub, Nat.reduceMul, Nat.reduceLT, Nat.reduceLeDiff, Nat.reduceEqDiff, Nat.reduceBEq, Int.reduceToNat, Int.reduceLT, Int.reduceLE, Int.reduceEq, Int.reduceNeg, Int.reduceAdd, Int.reduceSub, Int.reduceMul, ↓reduceIte, Int.reduceBEq, Int.reduceBNe]
  refine truths_f e he _ _ fun junk hj hI => ?_
  simp only [List.append_assoc, List.cons_append, List.nil_append, List.length_append, List.length_cons, List.length_nil, Nat.zero_add, Nat.reduceAdd, Nat.add_assoc] at hI ⊢
  simp -implicitDefEqProofs (maxSteps := 2000000) (disch := omega) only [go_sem, reduceCtorEq, Nat.reduceAdd, Nat.reduceSub, Nat.reduceMul, Nat.reduceLT, Nat.reduceLeDiff, Nat.reduceEqDiff, Nat.reduceBEq, Int.reduceToNat, Int.reduceLT, Int.reduceLE, Int.reduceEq, Int.reduceNeg, Int.reduceAdd, Int.reduceSub, Int.reduceMul, ↓reduceIte, Int.reduceBEq, Int.reduceBNe]
  refine ARun.rangeIterF (g := 90) (p := []) (L := (truthsL e).map tav) (by simp [aeval, Fr.get, lookA, Tryz.kp97]) hI (fun k hk => ⟨rfl, by simp; omega⟩) ⟨5, rfl, by simp [Tryz.EN]⟩
    (fun k => k = σ.length + 1) (fun k hk => ⟨by omega, by simp; omega⟩) (fun D τ => D = [] ∧ hget τ (σ.length + 1) = some (.cells [.bool false])) (fun j τ => j = .ret ∧ truthsL e ≠ [] ∧ hget τ (σ.length + 1) = some (.cells [.bool true]))
    ⟨rfl, by simp [hget_at]⟩ (fun {D τ τ'} hc hk => ⟨hc.1, by rw [hk _ rfl]; exact hc.2⟩) (fun {j τ τ'} hc hk => ⟨hc.1, hc.2.1, by rw [hk _ rfl]; exact hc.2.2⟩) ?_ ?_ ?_
  · rintro D v R fn τ hD ⟨_, c1⟩ hlt hrec
    have hne : truthsL e ≠ [] := fun h => by rw [h] at hD; simp at hD
    refine ev_sound (Tryz.envOK 6 (fun _ => ([], [])) fs18 fs18_ok) (n := 1000) (by kernel_rfl) ?_
    simp -implicitDefEqProofs (maxSteps := 2000000) (disch := omega) only [go_sem, reduceCtorEq, Nat.reduceAdd, Nat.reduceSub, Nat.reduceMul, Nat.reduceLT, Nat.reduceLeDiff, Nat.reduceEqDiff, Nat.reduceBEq, Int.reduceToNat, Int.reduceLT, Int.reduceLE, Int.reduceEq, Int.reduceNeg, Int.reduceAdd, Int.reduceSub, Int.reduceMul, ↓reduceIte, Int.reduceBEq, Int.reduceBNe, frIn]
    refine ARun.beginRound' (by simpa using hrec) fun τ2 hl2 hs2 hr2 => ?_
    simp only [List.length_append, List.length_cons, List.length_nil] at hlt hr2 hs2
    have k1 : hget τ2 (σ.length + 1) = some (.cells [.bool false]) := by rw [hs2 _ (by omega)]; exact c1
    refine ev_sound (Tryz.envOK 6 (fun _ => ([], [])) fs18 fs18_ok) (n := 1000) (by kernel_rfl) ?_
    simp -implicitDefEqProofs (maxSteps := 2000000) (disch := omega) only [go_sem, reduceCtorEq, Nat.reduceAdd, Nat.reduceSub, Nat.reduceMul, Nat.reduceLT, Nat.reduceLeDiff, Nat.reduceEqDiff, Nat.reduceBEq, Int.reduceToNat, Int.reduceLT, Int.reduceLE, Int.reduceEq, Int.reduceNeg, Int.reduceAdd, Int.reduceSub, Int.reduceMul, ↓reduceIte, Int.reduceBEq, Int.reduceBNe, k1, hget_hset]
    refine ⟨⟨by rw [length_hset]; omega, fun q hq hm => by rw [hget_ne (by omega), hs2 q (by omega)]⟩, ⟨none, hr2⟩, .ret, rfl, fun t ht => (by cases ht), rfl, hne⟩
  · rintro τ hlt hold ⟨hL, c1⟩
    have hL' : truthsL e = [] := by simpa using hL
    have hm : mayL e = false := by simp [mayL, hL']
    have k1 := fun o => hget_set c1 o
    refine ev_sound (Tryz.envOK 6 (fun _ => ([], [])) fs18 fs18_ok) (n := 1000) (by kernel_rfl) ?_
    simp -implicitDefEqProofs (maxSteps := 2000000) (disch := omega) only [go_sem, reduceCtorEq, Nat.reduceAdd, Nat.reduceSub, Nat.reduceMul, Nat.reduceLT, Nat.reduceLeDiff, Nat.reduceEqDiff, Nat.reduceBEq, Int.reduceToNat, Int.reduceLT, Int.reduceLE, Int.reduceEq, Int.reduceNeg, Int.reduceAdd, Int.reduceSub, Int.reduceMul, ↓reduceIte, Int.reduceBEq, Int.reduceBNe, c1, k1]
    rw [hm]
    simp only [List.length_append, List.length_cons, List.length_nil] at hlt hold
    exact gives_same (by rw [length_hset]; omega) (fun q hq => by rw [hget_ne (by omega), hold q (by omega) (by omega)]; exact hget_app hq) rfl
  · rintro τ j hlt hold ⟨rfl, hne, c1⟩
    refine ev_sound (Tryz.envOK 6 (fun _ => ([], [])) fs18 fs18_ok) (n := 1000) (by kernel_rfl) ?_
    simp -implicitDefEqProofs (maxSteps := 2000000) (disch := omega) only [go_sem, reduceCtorEq, Nat.reduceAdd, Nat.reduceSub, Nat.reduceMul, Nat.reduceLT, Nat.reduceLeDiff, Nat.reduceEqDiff, Nat.reduceBEq, Int.reduceToNat, Int.reduceLT, Int.reduceLE, Int.reduceEq, Int.reduceNeg, Int.reduceAdd, Int.reduceSub, Int.reduceMul, ↓reduceIte, Int.reduceBEq, Int.reduceBNe, c1]
    have hm : mayL e = true := by simp [mayL, hne]
    rw [hm]
    simp only [List.length_append, List.length_cons, List.length_nil] at hlt hold
    exact gives_same (by omega) (fun q hq => by rw [hold q (by omega) (by omega)]; exact hget_app hq) rfl
def may_s := spec1 tEar fun e => if ck e = 0 then some (.bool (mayL e)) else none
theorem may_ok : ∀ xs v, may_s xs = some v → PureV Tryz.prog 97 xs v :=
  spec1_ok fun e v h => by have h := someIf h; rw [← h.2]; exact may_p e h.1
def cloneRng_s := spec1 tRngs fun l => if l.length ≤ 4294967296 then some (.list .no 2 (l.map Rng.av)) else none
def fs20 (f : FuncId) (xs : List AV) : Option AV := if f = 12 then truthsN_s xs else if f = 97 then may_s xs else fs19 f xs
theorem fs20_ok : ∀ f xs v, fs20 f xs = some v → PureV Tryz.prog f xs v := by
  intro f xs v h
  unfold fs20 at h
  split at h
  · rename_i e; subst e; exact truthsN_ok _ _ h
  split at h
  · rename_i e; subst e; exact may_ok _ _ h
  exact fs19_ok _ _ _ h
attribute [go_sem] fs20 truthsN_s may_s
def noEar : Ear := ⟨0, [], []⟩
/-- An ear with one reading more. -/
def withL (e : Ear) (r : Rd) : Ear × Int :=
  if ck e ≠ 0 then (noEar, ck e) else if ckR r e.tones.length ≠ 0 then (noEar, ckR r e.tones.length) else if e.rds.length = 6 then (noEar, 6)
  else if mayL ⟨e.slack, e.tones, e.rds ++ [r]⟩ = false then (noEar, 9) else (⟨e.slack, e.tones, e.rds ++ [r]⟩, 0)
theorem decL_rd1' {t : Tok} {l : List Rd} {r : Rd} : decL 6 decRd (.list t 6 (l.map Rd.av ++ [.agg [.int .i64 r.kind, .int .i64 r.a, .int .i64 r.b, .int .i64 r.sec, .int .i64 r.shown.lo, .int .i64 r.shown.hi]])) = some (l ++ [r]) := decL_rd1
def with_m_s := spec2 tEar tRd fun e r => if e.tones.length ≤ 4294967296 ∧ e.rds.length ≤ 4294967296 then some (.tup [(withL e r).1.av, .int .i64 (withL e r).2]) else none
def fs21 (f : FuncId) (xs : List AV) : Option AV :=  fs20 f xs
theorem fs21_ok : ∀ f xs v, fs21 f xs = some v → PureV Tryz.prog f xs v := by
  intro f xs v h
  unfold fs21 at h
  exact fs20_ok _ _ _ h
attribute [go_sem] fs21
end Go.Proofs
