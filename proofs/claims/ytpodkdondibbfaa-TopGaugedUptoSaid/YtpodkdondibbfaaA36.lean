/- Texts of a proof: lemmas. -/
import Derived.Test.YtpodkdondibbfaaA34
import Derived.Test.YtpodkdondibbfaaMu3
set_option linter.unusedSimpArgs false
set_option linter.unusedVariables false
set_option maxRecDepth 100000
namespace Go.Proofs
open Go Go.Mu

theorem truths_f (e : Ear) (he : OkE e) (σ : List AObj) (Q : AV → List AObj → Prop) (h : ∀ junk, 2 ≤ junk.length → IterF Try.prog 68 [] [.ptr σ.length 0, .ptr (σ.length + 1) 0] (fun k => k = σ.length ∨ k = σ.length + 1) (σ ++ junk) ((truthsL e).map tav) → Q (.fn (.func 68) [] [.ptr σ.length 0, .ptr (σ.length + 1) 0]) (σ ++ junk)) :
    ACalls Try.prog 55 [e.av] σ Q := by
  refine ACalls.of_ev (E := Try.E 22 Try.ord55 fs5) (Try.envOK 22 Try.ord55 fs5 fs5_ok) Try.kp55 Try.func55 rfl (by kernel_rfl) (by simp [Try.E]) (Callable.of Try.func55 (by kernel_rfl) (by kernel_rfl)) (by kernel_rfl) ?_
  have hrl := he.rl
  simp only [Ear.av]
  simp -implicitDefEqProofs (maxSteps := 2000000) (disch := omega) only [go_sem, reduceCtorEq, Nat.reduceAdd, Nat.reduceSub, Nat.reduceMul, Nat.reduceLT, Nat.reduceLeDiff, Nat.reduceEqDiff, Nat.reduceBEq, Int.reduceToNat, Int.reduceLT, Int.reduceLE, Int.reduceEq, Int.reduceNeg, Int.reduceAdd, Int.reduceSub, Int.reduceMul, ↓reduceIte, Int.reduceBEq, Int.reduceBNe]
  refine ARun.ghostC (σ.length + 1) 1 (sz0 := 0) (by simp [hget_at]) ?_
  simp only [hset_at, List.set_cons_succ, List.set_cons_zero, List.append_assoc, List.cons_append, List.nil_append, List.length_append, List.length_cons, List.length_nil, Nat.zero_add]
  refine ARun.forS (Try.envOK 22 Try.ord55 fs5 fs5_ok) e.rds.length (fun _ => True) (fun i => [(9, .int .i64 i)]) (fun i j => σ ++ (.cells e.cells :: .cells [.list (.own (σ.length + 2)) 1 ((e.rds.take i).map fun r => rdv r e.slack)] :: .tail i 1 :: j)) [] (by kernel_rfl) (by simp [Ear.cells]) (by simp [upd, ins, subF, lookA]) trivial ?_ ?_
  · intro i j hi _ ih
    have hcl : ∀ r, (rdv r e.slack).cells = [rdv r e.slack] := fun r => by unfold rdv; split; rfl; split <;> rfl
    have hfl : ∀ r, (rdv r e.slack).flat = true := fun r => by unfold rdv; split; rfl; split <;> rfl
    have htl : (List.take i e.rds).length = i := by rw [List.length_take]; omega
    simp -implicitDefEqProofs (maxSteps := 2000000) (disch := omega) only [go_sem, reduceCtorEq, Nat.reduceAdd, Nat.reduceSub, Nat.reduceMul, Nat.reduceLT, Nat.reduceLeDiff, Nat.reduceEqDiff, Nat.reduceBEq, Int.reduceToNat, Int.reduceLT, Int.reduceLE, Int.reduceEq, Int.reduceNeg, Int.reduceAdd, Int.reduceSub, Int.reduceMul, ↓reduceIte, Int.reduceBEq, Int.reduceBNe, Ear.cells, Rd.av, hcl, hfl, htl, giveB_rdv]
    refine (ih trivial (j ++ [_])).castS (by rw [List.take_succ_eq_append_getElem hi, List.map_append]; rfl) (by simp [upd, ins, subF, lookA])
  · intro j _
    simp -implicitDefEqProofs (maxSteps := 2000000) (disch := omega) only [go_sem, reduceCtorEq, Nat.reduceAdd, Nat.reduceSub, Nat.reduceMul, Nat.reduceLT, Nat.reduceLeDiff, Nat.reduceEqDiff, Nat.reduceBEq, Int.reduceToNat, Int.reduceLT, Int.reduceLE, Int.reduceEq, Int.reduceNeg, Int.reduceAdd, Int.reduceSub, Int.reduceMul, ↓reduceIte, Int.reduceBEq, Int.reduceBNe, Ear.cells]
    refine h _ (by simp) fun r T σ' hk hC => ?_
    have := truths1_c e he T (re := σ.length) (rl := σ.length + 1) (τ := σ') (by rw [(hk _ (.inl rfl)).1]; simp [hget_at0, Ear.cells]) ⟨_, by rw [(hk _ (.inr rfl)).1, hget_at, List.take_length]; rfl⟩ ⟨(hk _ (.inl rfl)).2, (hk _ (.inr rfl)).2⟩ hC rfl
    simpa using this
/-- How many truths there are. -/
def truthsN (e : Ear) : Int × Int := if ck e = 0 then ((truthsL e).length, 0) else (0, ck e)
def truthsN_s := spec1 tEar fun e => if e.tones.length ≤ 4294967296 ∧ e.rds.length ≤ 4294967296 then some (.tup [.int .i64 (truthsN e).1, .int .i64 (truthsN e).2]) else none
theorem ck_more {e : Ear} {r : Rd} (hc : ck e = 0) (hr : ckR r e.tones.length = 0) (hn : e.rds.length ≤ 5) : ck ⟨e.slack, e.tones, e.rds ++ [r]⟩ = 0 := by
  have h2 := firstE_all (f := fun r => ckR r e.tones.length) (l := e.rds) (by simp only [ck] at hc; grind)
  have h3 : firstE (fun r => ckR r e.tones.length) (e.rds ++ [r]) = 0 := firstE_zero fun i hi => by
    rcases List.mem_append.1 (List.getElem_mem hi) with hm | hm
    · exact h2 _ hm
    · simp at hm; rw [hm]; exact hr
  simp only [ck] at hc ⊢
  rw [h3, List.length_append]
  simp only [List.length_cons, List.length_nil]
  grind
def mayL (e : Ear) : Bool := !(truthsL e).isEmpty
theorem may_p (e : Ear) (hc : ck e = 0) : PureV Try.prog 32 [e.av] (.bool (mayL e)) := by
  refine PureV.of_ev (E := Try.E 6 (fun _ => ([], [])) fs18) (Try.envOK 6 (fun _ => ([], [])) fs18 fs18_ok) (.bool) Try.kp32 Try.func32 rfl (by kernel_rfl) (by simp [Try.E]) (Callable.of Try.func32 (by kernel_rfl) (by kernel_rfl)) (by kernel_rfl) ?_
  intro σ
  have he := okE_of_ck hc
  simp only [Ear.av]
  simp -implicitDefEqProofs (maxSteps := 2000000) (disch := omega) only [go_sem, reduceCtorEq, Nat.reduceAdd, Nat.reduceSub, Nat.reduceMul, Nat.reduceLT, Nat.reduceLeDiff, Nat.reduceEqDiff, Nat.reduceBEq, Int.reduceToNat, Int.reduceLT, Int.reduceLE, Int.reduceEq, Int.reduceNeg, Int.reduceAdd, Int.reduceSub, Int.reduceMul, ↓reduceIte, Int.reduceBEq, Int.reduceBNe]
  refine truths_f e he _ _ fun junk hj hI => ?_
  simp only [List.append_assoc, List.cons_append, List.nil_append, List.length_append, List.length_cons, List.length_nil, Nat.zero_add, Nat.reduceAdd, Nat.add_assoc] at hI ⊢
  simp -implicitDefEqProofs (maxSteps := 2000000) (disch := omega) only [go_sem, reduceCtorEq, Nat.reduceAdd, Nat.reduceSub, Nat.reduceMul, Nat.reduceLT, Nat.reduceLeDiff, Nat.reduceEqDiff, Nat.reduceBEq, Int.reduceToNat, Int.reduceLT, Int.reduceLE, Int.reduceEq, Int.reduceNeg, Int.reduceAdd, Int.reduceSub, Int.reduceMul, ↓reduceIte, Int.reduceBEq, Int.reduceBNe]
  refine ARun.rangeIterF (g := 68) (p := []) (L := (truthsL e).map tav) (by simp [aeval, Fr.get, lookA, Try.kp32]) hI (fun k hk => ⟨rfl, by simp; omega⟩) ⟨5, rfl, by simp [Try.EN]⟩
    (fun k => k = σ.length + 1) (fun k hk => ⟨by omega, by simp; omega⟩) (fun D τ => D = [] ∧ hget τ (σ.length + 1) = some (.cells [.bool false])) (fun j τ => j = .ret ∧ truthsL e ≠ [] ∧ hget τ (σ.length + 1) = some (.cells [.bool true]))
    ⟨rfl, by simp [hget_at]⟩ (fun {D τ τ'} hc hk => ⟨hc.1, by rw [hk _ rfl]; exact hc.2⟩) (fun {j τ τ'} hc hk => ⟨hc.1, hc.2.1, by rw [hk _ rfl]; exact hc.2.2⟩) ?_ ?_ ?_
  · rintro D v R fn τ hD ⟨_, c1⟩ hlt hrec
    have hne : truthsL e ≠ [] := fun h => by rw [h] at hD; simp at hD
    refine ev_sound (Try.envOK 6 (fun _ => ([], [])) fs18 fs18_ok) (n := 1000) (by kernel_rfl) ?_
    simp -implicitDefEqProofs (maxSteps := 2000000) (disch := omega) only [go_sem, reduceCtorEq, Nat.reduceAdd, Nat.reduceSub, Nat.reduceMul, Nat.reduceLT, Nat.reduceLeDiff, Nat.reduceEqDiff, Nat.reduceBEq, Int.reduceToNat, Int.reduceLT, Int.reduceLE, Int.reduceEq, Int.reduceNeg, Int.reduceAdd, Int.reduceSub, Int.reduceMul, ↓reduceIte, Int.reduceBEq, Int.reduceBNe, frIn]
    refine ARun.beginRound' (by simpa using hrec) fun τ2 hl2 hs2 hr2 => ?_
    simp only [List.length_append, List.length_cons, List.length_nil] at hlt hr2 hs2
    have k1 : hget τ2 (σ.length + 1) = some (.cells [.bool false]) := by rw [hs2 _ (by omega)]; exact c1
    refine ev_sound (Try.envOK 6 (fun _ => ([], [])) fs18 fs18_ok) (n := 1000) (by kernel_rfl) ?_
    simp -implicitDefEqProofs (maxSteps := 2000000) (disch := omega) only [go_sem, reduceCtorEq, Nat.reduceAdd, Nat.reduceSub, Nat.reduceMul, Nat.reduceLT, Nat.reduceLeDiff, Nat.reduceEqDiff, Nat.reduceBEq, Int.reduceToNat, Int.reduceLT, Int.reduceLE, Int.reduceEq, Int.reduceNeg, Int.reduceAdd, Int.reduceSub, Int.reduceMul, ↓reduceIte, Int.reduceBEq, Int.reduceBNe, k1, hget_hset]
    refine ⟨⟨by rw [length_hset]; omega, fun q hq hm => by rw [hget_ne (by omega), hs2 q (by omega)]⟩, ⟨none, hr2⟩, .ret, rfl, fun t ht => (by cases ht), rfl, hne⟩
  · rintro τ hlt hold ⟨hL, c1⟩
    have hL' : truthsL e = [] := by simpa using hL
    have hm : mayL e = false := by simp [mayL, hL']
    have k1 := fun o => hget_set c1 o
    refine ev_sound (Try.envOK 6 (fun _ => ([], [])) fs18 fs18_ok) (n := 1000) (by kernel_rfl) ?_
    simp -implicitDefEqProofs (maxSteps := 2000000) (disch := omega) only [go_sem, reduceCtorEq, Nat.reduceAdd, Nat.reduceSub, Nat.reduceMul, Nat.reduceLT, Nat.reduceLeDiff, Nat.reduceEqDiff, Nat.reduceBEq, Int.reduceToNat, Int.reduceLT, Int.reduceLE, Int.reduceEq, Int.reduceNeg, Int.reduceAdd, Int.reduceSub, Int.reduceMul, ↓reduceIte, Int.reduceBEq, Int.reduceBNe, c1, k1]
    rw [hm]
    simp only [List.length_append, List.length_cons, List.length_nil] at hlt hold
    exact gives_same (by rw [length_hset]; omega) (fun q hq => by rw [hget_ne (by omega), hold q (by omega) (by omega)]; exact hget_app hq) rfl
  · rintro τ j hlt hold ⟨rfl, hne, c1⟩
    refine ev_sound (Try.envOK 6 (fun _ => ([], [])) fs18 fs18_ok) (n := 1000) (by kernel_rfl) ?_
    simp -implicitDefEqProofs (maxSteps := 2000000) (disch := omega) only [go_sem, reduceCtorEq, Nat.reduceAdd, Nat.reduceSub, Nat.reduceMul, Nat.reduceLT, Nat.reduceLeDiff, Nat.reduceEqDiff, Nat.reduceBEq, Int.reduceToNat, Int.reduceLT, Int.reduceLE, Int.reduceEq, Int.reduceNeg, Int.reduceAdd, Int.reduceSub, Int.reduceMul, ↓reduceIte, Int.reduceBEq, Int.reduceBNe, c1]
    have hm : mayL e = true := by simp [mayL, hne]
    rw [hm]
    simp only [List.length_append, List.length_cons, List.length_nil] at hlt hold
    exact gives_same (by omega) (fun q hq => by rw [hold q (by omega) (by omega)]; exact hget_app hq) rfl
def may_s := spec1 tEar fun e => if ck e = 0 then some (.bool (mayL e)) else none
theorem may_ok : ∀ xs v, may_s xs = some v → PureV Try.prog 32 xs v :=
  spec1_ok fun e v h => by have h := someIf h; rw [← h.2]; exact may_p e h.1
theorem cloneRng_p (l : List Rng) (hl : l.length ≤ 4294967296) : PureV Try.prog 30 [.list .no 2 (l.map Rng.av)] (.list .no 2 (l.map Rng.av)) := by
  refine PureV.of_ev (E := Try.E 8 (fun _ => ([], [])) fs0) (Try.envOK 8 (fun _ => ([], [])) fs0 fs0_ok) (rngs_plain _) Try.kp30 Try.func30 rfl (by kernel_rfl) (by simp [Try.E]) (Callable.of Try.func30 (by kernel_rfl) (by kernel_rfl)) (by kernel_rfl) ?_
  intro σ
  simp -implicitDefEqProofs (maxSteps := 2000000) (disch := omega) only [go_sem, reduceCtorEq, Nat.reduceAdd, Nat.reduceSub, Nat.reduceMul, Nat.reduceLT, Nat.reduceLeDiff, Nat.reduceEqDiff, Nat.reduceBEq, Int.reduceToNat, Int.reduceLT, Int.reduceLE, Int.reduceEq, Int.reduceNeg, Int.reduceAdd, Int.reduceSub, Int.reduceMul, ↓reduceIte, Int.reduceBEq, Int.reduceBNe]
  intro h
  simp at h; subst h; simp
def cloneRng_s := spec1 tRngs fun l => if l.length ≤ 4294967296 then some (.list .no 2 (l.map Rng.av)) else none
theorem cloneRng_ok : ∀ xs v, cloneRng_s xs = some v → PureV Try.prog 30 xs v :=
  spec1_ok fun l v h => by have h := someIf h; rw [← h.2]; exact cloneRng_p l h.1
/-- A copy of readings: a list of its own, or none. -/
theorem cloneRd_c (l : List Rd) (tk : Tok) (hl : l.length ≤ 4294967296) (σ : List AObj) (Q : AV → List AObj → Prop) (h : Q (.list (.own σ.length) 6 (l.map Rd.av)) (σ ++ [.tail l.length 6])) (h0 : l = [] → Q (.list .full 0 []) σ) :
    ACalls Try.prog 31 [.list tk 6 (l.map Rd.av)] σ Q := by
  refine ACalls.of_ev (E := Try.E 8 (fun _ => ([], [])) fs0) (Try.envOK 8 (fun _ => ([], [])) fs0 fs0_ok) Try.kp31 Try.func31 rfl (by kernel_rfl) (by simp [Try.E]) (Callable.of Try.func31 (by kernel_rfl) (by kernel_rfl)) (by kernel_rfl) ?_
  simp -implicitDefEqProofs (maxSteps := 2000000) (disch := omega) only [go_sem, reduceCtorEq, Nat.reduceAdd, Nat.reduceSub, Nat.reduceMul, Nat.reduceLT, Nat.reduceLeDiff, Nat.reduceEqDiff, Nat.reduceBEq, Int.reduceToNat, Int.reduceLT, Int.reduceLE, Int.reduceEq, Int.reduceNeg, Int.reduceAdd, Int.reduceSub, Int.reduceMul, ↓reduceIte, Int.reduceBEq, Int.reduceBNe]
  refine ⟨h, fun e => ?_⟩
  simp at e
  exact h0 e
def fs20 (f : FuncId) (xs : List AV) : Option AV := if f = 32 then may_s xs else if f = 30 then cloneRng_s xs else fs19 f xs
theorem fs20_ok : ∀ f xs v, fs20 f xs = some v → PureV Try.prog f xs v := by
  intro f xs v h
  unfold fs20 at h
  split at h
  · rename_i e; subst e; exact may_ok _ _ h
  split at h
  · rename_i e; subst e; exact cloneRng_ok _ _ h
  exact fs19_ok _ _ _ h
attribute [go_sem] fs20 may_s cloneRng_s
def noEar : Ear := ⟨0, [], []⟩
/-- An ear with one reading more. -/
def withL (e : Ear) (r : Rd) : Ear × Int :=
  if ck e ≠ 0 then (noEar, ck e) else if ckR r e.tones.length ≠ 0 then (noEar, ckR r e.tones.length) else if e.rds.length = 6 then (noEar, 6)
  else if mayL ⟨e.slack, e.tones, e.rds ++ [r]⟩ = false then (noEar, 9) else (⟨e.slack, e.tones, e.rds ++ [r]⟩, 0)
theorem decL_rd1' {t : Tok} {l : List Rd} {r : Rd} : decL 6 decRd (.list t 6 (l.map Rd.av ++ [.agg [.int .i64 r.kind, .int .i64 r.a, .int .i64 r.b, .int .i64 r.sec, .int .i64 r.shown.lo, .int .i64 r.shown.hi]])) = some (l ++ [r]) := decL_rd1
theorem with_m (e : Ear) (r : Rd) (h1 : e.tones.length ≤ 4294967296) (h2 : e.rds.length ≤ 4294967296) : PureV Try.prog 11 [e.av, r.av] (.tup [(withL e r).1.av, .int .i64 (withL e r).2]) := by
  refine PureV.of_ev (E := Try.E 44 Try.ord11 fs20) (Try.envOK 44 Try.ord11 fs20 fs20_ok) (.tup (by simp; exact ⟨Ear.plain _, .int⟩)) Try.kp11 Try.func11 rfl (by kernel_rfl) (by simp [Try.E]) (Callable.of Try.func11 (by kernel_rfl) (by kernel_rfl)) (by kernel_rfl) ?_
  intro σ
  simp only [Ear.av, Rd.av]
  by_cases hc : ck e = 0
  · have he := okE_of_ck hc
    have hlen := he.len
    have hrl := he.rl
    have hc' : ck ⟨e.slack, e.tones, e.rds⟩ = 0 := hc
    by_cases hr : ckR r e.tones.length = 0
    · have hr' : ckR ⟨r.kind, r.a, r.b, r.sec, ⟨r.shown.lo, r.shown.hi⟩⟩ e.tones.length = 0 := hr
      by_cases h6 : e.rds.length = 6
      · have hd : withL e r = (noEar, 6) := by unfold withL; rw [if_neg (by simp [hc]), if_neg (by simp [hr]), if_pos h6]
        rw [hd]
        simp -implicitDefEqProofs (maxSteps := 2000000) (disch := omega) only [go_sem, reduceCtorEq, Nat.reduceAdd, Nat.reduceSub, Nat.reduceMul, Nat.reduceLT, Nat.reduceLeDiff, Nat.reduceEqDiff, Nat.reduceBEq, Int.reduceToNat, Int.reduceLT, Int.reduceLE, Int.reduceEq, Int.reduceNeg, Int.reduceAdd, Int.reduceSub, Int.reduceMul, ↓reduceIte, Int.reduceBEq, Int.reduceBNe, hc', hr, noEar, List.map_nil]
      · have hm6 : e.rds.length ≤ 6 := by simp only [ck] at hc; grind
        have hck : ck ⟨e.slack, e.tones, e.rds ++ [r]⟩ = 0 := ck_more hc hr (by omega)
        have hd : withL e r = (if mayL ⟨e.slack, e.tones, e.rds ++ [r]⟩ = false then (noEar, 9) else (⟨e.slack, e.tones, e.rds ++ [r]⟩, 0)) := by unfold withL; rw [if_neg (by simp [hc]), if_neg (by simp [hr]), if_neg h6]
        rw [hd]
        cases hm : mayL ⟨e.slack, e.tones, e.rds ++ [r]⟩
        · simp -implicitDefEqProofs (maxSteps := 2000000) (disch := omega) only [go_sem, reduceCtorEq, Nat.reduceAdd, Nat.reduceSub, Nat.reduceMul, Nat.reduceLT, Nat.reduceLeDiff, Nat.reduceEqDiff, Nat.reduceBEq, Int.reduceToNat, Int.reduceLT, Int.reduceLE, Int.reduceEq, Int.reduceNeg, Int.reduceAdd, Int.reduceSub, Int.reduceMul, ↓reduceIte, Int.reduceBEq, Int.reduceBNe, hc', hr]
          refine cloneRd_c e.rds .no (by omega) _ _ ?_ ?_
          · simp -implicitDefEqProofs (maxSteps := 2000000) (disch := omega) only [go_sem, reduceCtorEq, Nat.reduceAdd, Nat.reduceSub, Nat.reduceMul, Nat.reduceLT, Nat.reduceLeDiff, Nat.reduceEqDiff, Nat.reduceBEq, Int.reduceToNat, Int.reduceLT, Int.reduceLE, Int.reduceEq, Int.reduceNeg, Int.reduceAdd, Int.reduceSub, Int.reduceMul, ↓reduceIte, Int.reduceBEq, Int.reduceBNe, hck, hm, decL_rd1']
            simp [noEar]
          · intro h0
            have hm0 : mayL ⟨e.slack, e.tones, [] ++ [r]⟩ = false := by simpa [h0] using hm
            have hck0 : ck ⟨e.slack, e.tones, [] ++ [r]⟩ = 0 := by simpa [h0] using hck
            have hd0 : ∀ t, decL 6 decRd (.list t 6 [.agg [.int .i64 r.kind, .int .i64 r.a, .int .i64 r.b, .int .i64 r.sec, .int .i64 r.shown.lo, .int .i64 r.shown.hi]]) = some [r] := fun t => decL_rd1' (l := [])
            simp only [List.nil_append] at hm0 hck0
            simp -implicitDefEqProofs (maxSteps := 2000000) (disch := omega) only [go_sem, reduceCtorEq, Nat.reduceAdd, Nat.reduceSub, Nat.reduceMul, Nat.reduceLT, Nat.reduceLeDiff, Nat.reduceEqDiff, Nat.reduceBEq, Int.reduceToNat, Int.reduceLT, Int.reduceLE, Int.reduceEq, Int.reduceNeg, Int.reduceAdd, Int.reduceSub, Int.reduceMul, ↓reduceIte, Int.reduceBEq, Int.reduceBNe, hck0, hm0, hd0]
            simp [noEar]
        · simp -implicitDefEqProofs (maxSteps := 2000000) (disch := omega) only [go_sem, reduceCtorEq, Nat.reduceAdd, Nat.reduceSub, Nat.reduceMul, Nat.reduceLT, Nat.reduceLeDiff, Nat.reduceEqDiff, Nat.reduceBEq, Int.reduceToNat, Int.reduceLT, Int.reduceLE, Int.reduceEq, Int.reduceNeg, Int.reduceAdd, Int.reduceSub, Int.reduceMul, ↓reduceIte, Int.reduceBEq, Int.reduceBNe, hc', hr]
          refine cloneRd_c e.rds .no (by omega) _ _ ?_ ?_
          · simp -implicitDefEqProofs (maxSteps := 2000000) (disch := omega) only [go_sem, reduceCtorEq, Nat.reduceAdd, Nat.reduceSub, Nat.reduceMul, Nat.reduceLT, Nat.reduceLeDiff, Nat.reduceEqDiff, Nat.reduceBEq, Int.reduceToNat, Int.reduceLT, Int.reduceLE, Int.reduceEq, Int.reduceNeg, Int.reduceAdd, Int.reduceSub, Int.reduceMul, ↓reduceIte, Int.reduceBEq, Int.reduceBNe, hck, hm, decL_rd1']
            simp [Rd.av, Rng.av]
          · intro h0
            have hm0 : mayL ⟨e.slack, e.tones, [] ++ [r]⟩ = true := by simpa [h0] using hm
            have hck0 : ck ⟨e.slack, e.tones, [] ++ [r]⟩ = 0 := by simpa [h0] using hck
            have hd0 : ∀ t, decL 6 decRd (.list t 6 [.agg [.int .i64 r.kind, .int .i64 r.a, .int .i64 r.b, .int .i64 r.sec, .int .i64 r.shown.lo, .int .i64 r.shown.hi]]) = some [r] := fun t => decL_rd1' (l := [])
            simp only [List.nil_append] at hm0 hck0
            simp -implicitDefEqProofs (maxSteps := 2000000) (disch := omega) only [go_sem, reduceCtorEq, Nat.reduceAdd, Nat.reduceSub, Nat.reduceMul, Nat.reduceLT, Nat.reduceLeDiff, Nat.reduceEqDiff, Nat.reduceBEq, Int.reduceToNat, Int.reduceLT, Int.reduceLE, Int.reduceEq, Int.reduceNeg, Int.reduceAdd, Int.reduceSub, Int.reduceMul, ↓reduceIte, Int.reduceBEq, Int.reduceBNe, hck0, hm0, hd0]
            simp [h0, Rd.av, Rng.av]
    · have hd : withL e r = (noEar, ckR r e.tones.length) := by unfold withL; rw [if_neg (by simp [hc]), if_pos hr]
      rw [hd]
      generalize hq : ckR r e.tones.length = q at hr
      simp -implicitDefEqProofs (maxSteps := 2000000) (disch := omega) only [go_sem, reduceCtorEq, Nat.reduceAdd, Nat.reduceSub, Nat.reduceMul, Nat.reduceLT, Nat.reduceLeDiff, Nat.reduceEqDiff, Nat.reduceBEq, Int.reduceToNat, Int.reduceLT, Int.reduceLE, Int.reduceEq, Int.reduceNeg, Int.reduceAdd, Int.reduceSub, Int.reduceMul, ↓reduceIte, Int.reduceBEq, Int.reduceBNe, hc', hq, hr, noEar, List.map_nil]
  · have hc' : ¬ ck ⟨e.slack, e.tones, e.rds⟩ = 0 := hc
    have hd : withL e r = (noEar, ck ⟨e.slack, e.tones, e.rds⟩) := by unfold withL; rw [if_pos hc]
    rw [hd]
    generalize hq : ck ⟨e.slack, e.tones, e.rds⟩ = q at hc'
    simp -implicitDefEqProofs (maxSteps := 2000000) (disch := omega) only [go_sem, reduceCtorEq, Nat.reduceAdd, Nat.reduceSub, Nat.reduceMul, Nat.reduceLT, Nat.reduceLeDiff, Nat.reduceEqDiff, Nat.reduceBEq, Int.reduceToNat, Int.reduceLT, Int.reduceLE, Int.reduceEq, Int.reduceNeg, Int.reduceAdd, Int.reduceSub, Int.reduceMul, ↓reduceIte, Int.reduceBEq, Int.reduceBNe, hq, hc', noEar, List.map_nil]

def with_m_s := spec2 tEar tRd fun e r => if e.tones.length ≤ 4294967296 ∧ e.rds.length ≤ 4294967296 then some (.tup [(withL e r).1.av, .int .i64 (withL e r).2]) else none
theorem with_m_ok : ∀ xs v, with_m_s xs = some v → PureV Try.prog 11 xs v :=
  spec2_ok fun e r v h => by have h := someIf h; rw [← h.2]; exact with_m e r h.1.1 h.1.2
def fs21 (f : FuncId) (xs : List AV) : Option AV := if f = 11 then with_m_s xs else fs20 f xs
theorem fs21_ok : ∀ f xs v, fs21 f xs = some v → PureV Try.prog f xs v := by
  intro f xs v h
  unfold fs21 at h
  split at h
  · rename_i e; subst e; exact with_m_ok _ _ h
  exact fs20_ok _ _ _ h
attribute [go_sem] fs21 with_m_s
end Go.Proofs
