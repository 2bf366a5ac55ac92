/- Texts of a proof: lemmas. -/
import Derived.Test.YtpodkdondibbfaaRB5
import Derived.Test.YtpodkdondibbfaaRB7
set_option linter.unusedSimpArgs false
set_option linter.unusedVariables false
set_option maxRecDepth 100000
namespace Go.Proofs
open Go Go.Mu

/-! A count over a gate. -/
theorem gauge_tones {n w : Int} {e : Ear} {x0 : Int} (h : EarP 1 n w e [x0]) {a b : Int} (hab : e.tones = [⟨a, b⟩]) : ∃ x, tonesL e = ([x], 0) ∧ a ≤ x.lo ∧ x.lo ≤ x0 ∧ x0 ≤ x.hi ∧ x.hi ≤ b ∧ x = spanL (fun t => tg t (0 : Nat)) (truthsL e) := by
  obtain ⟨h1, h2⟩ := h.known
  have hl : e.tones.length = 1 := h.len
  refine ⟨spanL (fun t => tg t (0 : Nat)) (truthsL e), ?_, ?_⟩
  · unfold tonesL
    rw [h1, hl]
    rfl
  · have hmem : ∀ t ∈ truthsL e, a ≤ tg t (0 : Nat) ∧ tg t (0 : Nat) ≤ b := fun t ht => by
      rw [truthsL_filter, List.mem_filter] at ht
      have := ((mem_allC (by omega) t).1 ht.1).2 0 (by omega)
      rw [if_pos (by omega), hab] at this
      exact this
    obtain ⟨s1, ⟨u, hu, hu2⟩, ⟨v, hv, hv2⟩⟩ := spanL_spec (num := fun t => tg t (0 : Nat)) h2
    have m1 := hmem u hu
    have m2 := hmem v hv
    have m3 := s1 _ h.truth
    have m4 : tg (padT [x0]) ((0 : Nat) : Int) = x0 := by rw [tg_pad]; rfl
    rw [m4] at m3
    exact ⟨by omega, m3.1, m3.2, by omega, rfl⟩
theorem gauge_more {w W : Int} {e : Ear} {x0 a b sec c : Int} (h : EarP 1 0 W e [x0]) (hab : e.tones = [⟨a, b⟩]) (hg : gateS e.slack (truthsL e) 0 w sec = true) (hs : 1 ≤ sec ∧ sec ≤ 20) (hc : 0 ≤ c ∧ c ≤ 25000)
    (hx : 100 * (c - 1 - e.slack) < x0 * sec ∧ x0 * sec < 100 * (c + 1 + e.slack)) :
    withL e ⟨1, 0, 0, sec, ⟨c, c⟩⟩ = (⟨e.slack, e.tones, e.rds ++ [⟨1, 0, 0, sec, ⟨c, c⟩⟩]⟩, 0) ∧ ∃ x, tonesL ⟨e.slack, e.tones, e.rds ++ [⟨1, 0, 0, sec, ⟨c, c⟩⟩]⟩ = ([x], 0) ∧ a ≤ x.lo ∧ x.lo ≤ x0 ∧ x0 ≤ x.hi ∧ x.hi ≤ b ∧ x.hi - x.lo ≤ w := by
  have hl : e.tones.length = 1 := h.len
  have hrn := h.rn
  have hr : ckR ⟨1, 0, 0, sec, ⟨c, c⟩⟩ 1 = 0 := by simp only [ckR]; grind
  have hi : isR ⟨1, 0, 0, sec, ⟨c, c⟩⟩ e.slack [x0] = true := by
    simp only [isR, if_true, decide_eq_true_eq]
    have : tg [x0] 0 = x0 := rfl
    rw [this]; exact hx
  have hck : ck ⟨e.slack, e.tones, e.rds ++ [⟨1, 0, 0, sec, ⟨c, c⟩⟩]⟩ = 0 := ck_more h.ck (by rw [hl]; exact hr) (by omega)
  have hE : EarP 1 1 W ⟨e.slack, e.tones, e.rds ++ [⟨1, 0, 0, sec, ⟨c, c⟩⟩]⟩ [x0] := ⟨hck, h.len, h.lo, h.hi, by simp only [List.length_append, List.length_singleton]; omega, h.sl, h.rng, h.bd, fun q hq => by
    rcases List.mem_append.1 hq with hq | hq
    · exact h.rd q hq
    · simp at hq; subst hq; exact hi⟩
  have hne := hE.known.2
  refine ⟨?_, ?_⟩
  · unfold withL
    rw [if_neg (by rw [h.ck]; simp), if_neg (by rw [hl, show ((1 : Nat) : Int) = 1 from rfl, hr]; simp), if_neg (by omega), if_neg]
    unfold mayL
    cases ht : truthsL ⟨e.slack, e.tones, e.rds ++ [⟨1, 0, 0, sec, ⟨c, c⟩⟩]⟩ with
    | nil => exact absurd ht hne
    | cons a l => simp
  · obtain ⟨x, q1, q2, q3, q4, q5, q6⟩ := gauge_tones hE (a := a) (b := b) hab
    refine ⟨x, q1, q2, q3, q4, q5, ?_⟩
    rcases tones_count h.ck (x := 0) (s := sec) (c := c) (by omega) hs hc (by omega) with ⟨_, h2⟩ | ⟨h1, tl, h2, h3, h4⟩
    · rw [q1] at h2; cases h2
    · rw [q1] at h2
      simp only [Prod.mk.injEq, and_true] at h2
      subst h2
      have e4 : x = spanL (fun t => tg t 0) (outO ⟨1, 0, 0, sec, ⟨0, 0⟩⟩ e.slack (truthsL e) c) := h4
      unfold gateS at hg
      rw [List.all_eq_true] at hg
      have := hg (c, outO ⟨1, 0, 0, sec, ⟨0, 0⟩⟩ e.slack (truthsL e) c) (outcomes_iff.2 ⟨rfl, h1⟩)
      rw [e4]
      simpa using this
/-! A stroke of the game. -/
theorem wearL_add (x w : Rng) (a : Nat) : ∀ b, wearL (wearL x w a) w b = wearL x w (a + b)
  | 0 => rfl
  | b + 1 => by
    show lessR (wearL (wearL x w a) w b) w = lessR (wearL x w (a + b)) w
    rw [wearL_add]
theorem stopsL_shift (j : Jb) (u : Rng) (t0 r0 : Nat) : ∀ n p t r, stopsL { j with pitch := u, tip := wearL j.tip j.wt t0, root := wearL j.root j.wr r0 } n p t r = stopsL j n p (t0 + t) (r0 + r)
  | 0, p, t, r => rfl
  | n + 1, p, t, r => by
    have e2 : ∀ a b, okS { j with pitch := u, tip := wearL j.tip j.wt t0, root := wearL j.root j.wr r0 } a b = okS j (t0 + a) (r0 + b) := fun a b => by
      unfold okS; simp only [wearL_add]
    have e3 : (fun x => stopsL { j with pitch := u, tip := wearL j.tip j.wt t0, root := wearL j.root j.wr r0 } n x (t + 1) r) = fun x => stopsL j n x (t0 + t + 1) (r0 + r) := funext fun x => stopsL_shift j u t0 r0 n x _ _
    have e4 : (fun x => stopsL { j with pitch := u, tip := wearL j.tip j.wt t0, root := wearL j.root j.wr r0 } n x t (r + 1)) = fun x => stopsL j n x (t0 + t) (r0 + r + 1) := funext fun x => stopsL_shift j u t0 r0 n x _ _
    simp only [stopsL, e2, e3, e4]
    rfl
theorem fewL_of {f : Nat → Bool} {L : Nat} (hL : L < 5) (h : f L = true) : ∃ k, k ≤ L ∧ fewL f = some k ∧ f k = true ∧ ∀ s, s < k → f s = false := by
  cases hg : fewL f with
  | none =>
    have := List.find?_eq_none.1 hg L (List.mem_range.2 hL)
    exact absurd h this
  | some k =>
    rw [fewL, List.find?_range_eq_some] at hg
    have h3 : ∀ s, s < k → f s = false := fun s hs => by have := hg.2.2 s hs; simpa using this
    refine ⟨k, ?_, rfl, hg.1, h3⟩
    rcases Nat.lt_or_ge L k with hlt | hge
    · have := h3 L hlt; rw [h] at this; cases this
    · exact hge
/-- What the next stroke is, and what it leaves. -/
structure StepP (j : Jb) (B : Rng) (L k : Nat) : Prop where
  le : k ≤ L
  next : nextS (j.at B) = some k
  done : k = 0 → passS (j.at B) B = 1
  go : 0 < k → ∃ s : Int, (s = 1 ∨ s = 2) ∧ strokeL (j.at B) k B 0 0 = s ∧ spoilS (strP (j.at B) s).tip (strP (j.at B) s).root j.least = 2 ∧ rdsK (strP (j.at B) s) ⟨(strP (j.at B) s).pitch, 0, 0, k - 1⟩ = true
theorem game_step {j : Jb} {L : Nat} (hL : L < 5) (hg : rdsK j ⟨j.pitch, 0, 0, L⟩ = true) {B : Rng} (h1 : j.pitch.lo ≤ B.lo) (h2 : B.hi ≤ j.pitch.hi) (h3 : B.lo ≤ B.hi) (hm : 0 ≤ j.meter) (h4 : B.hi - B.lo ≤ 2 * j.meter) : ∃ k, StepP j B L k := by
  have hs : stopsL j L B 0 0 = true := by
    unfold rdsK at hg
    rw [List.all_eq_true] at hg
    have := hg (meet2 j.pitch ⟨B.lo + j.meter - j.meter, B.lo + j.meter + j.meter⟩) (mem_rdL.2 ⟨B.lo + j.meter, by simp only; omega, by simp only; omega, rfl⟩)
    refine stopsL_inR j L _ B 0 0 ?_ this
    unfold inR meet2; simp only; omega
  obtain ⟨k, k1, k2, k3, k4⟩ := fewL_of (f := fun n => stopsL j n B 0 0) hL hs
  have hnx : nextS (j.at B) = some k := by
    unfold nextS
    have e : (fun n => stopsL (j.at B) n (j.at B).pitch 0 0) = fun n => stopsL j n B 0 0 := funext fun n => stopsL_at j B n B 0 0
    rw [e]; exact k2
  refine ⟨k, k1, hnx, fun h0 => ?_, fun hpos => ?_⟩
  · subst h0
    have hh : hasR (winS j) B = true := k3
    unfold passS
    rw [show winS (j.at B) = winS j from rfl, if_pos hh]
  · obtain ⟨k', rfl⟩ : ∃ k', k = k' + 1 := ⟨k - 1, by omega⟩
    have hnh : hasR (winS j) B = false := k4 0 (by omega)
    have hst : stopsL (j.at B) (k' + 1) B 0 0 = true := by rw [stopsL_at]; exact k3
    rw [stopsL_stroke, show winS (j.at B) = winS j from rfl, hnh, Bool.false_or, decide_eq_true_eq] at hst
    have hdef : strokeL (j.at B) (k' + 1) B 0 0 = if okS j 1 0 && (rdL (plusR B j.up) j.meter).all (fun x => stopsL (j.at B) k' x 1 0) then 1 else if okS j 0 1 && (rdL (lessR B j.down) j.meter).all (fun x => stopsL (j.at B) k' x 0 1) then 2 else 0 := rfl
    rw [hdef] at hst ⊢
    by_cases c1 : (okS j 1 0 && (rdL (plusR B j.up) j.meter).all (fun x => stopsL (j.at B) k' x 1 0)) = true
    · rw [if_pos c1]
      rw [Bool.and_eq_true] at c1
      refine ⟨1, .inl rfl, rfl, ?_, ?_⟩
      · have := c1.1
        unfold okS at this
        exact beq_iff_eq.1 this
      · have e : (fun x => stopsL (strP (j.at B) 1) k' x 0 0) = fun x => stopsL (j.at B) k' x 1 0 := funext fun x => stopsL_shift (j.at B) (plusR B j.up) 1 0 k' x 0 0
        show (rdL (plusR B j.up) j.meter).all (fun x => stopsL (strP (j.at B) 1) k' x 0 0) = true
        rw [e]; exact c1.2
    · rw [if_neg c1] at hst ⊢
      by_cases c2 : (okS j 0 1 && (rdL (lessR B j.down) j.meter).all (fun x => stopsL (j.at B) k' x 0 1)) = true
      · rw [if_pos c2]
        rw [Bool.and_eq_true] at c2
        refine ⟨2, .inr rfl, rfl, ?_, ?_⟩
        · have := c2.1
          unfold okS at this
          exact beq_iff_eq.1 this
        · have e : (fun x => stopsL (strP (j.at B) 2) k' x 0 0) = fun x => stopsL (j.at B) k' x 0 1 := funext fun x => stopsL_shift (j.at B) (lessR B j.down) 0 1 k' x 0 0
          show (rdL (lessR B j.down) j.meter).all (fun x => stopsL (strP (j.at B) 2) k' x 0 0) = true
          rw [e]; exact c2.2
      · rw [if_neg c2] at hst; omega
end Go.Proofs
set_option linter.unusedSimpArgs false
set_option linter.unusedVariables false
set_option maxRecDepth 100000
namespace Go.Proofs
open Go Go.Mu

def tgv (j : Jb) : AV := .agg [.int .i64 j.pitch.lo, .int .i64 j.pitch.hi, .int .i64 j.tip.lo, .int .i64 j.tip.hi, .int .i64 j.root.lo, .int .i64 j.root.hi]
theorem tgv_plain (j : Jb) : Plain (tgv j) := .agg (by
  intro c hc
  simp only [List.mem_cons, List.not_mem_nil, or_false] at hc
  rcases hc with h | h | h | h | h | h <;> (subst h; exact .int))
set_option maxHeartbeats 400000000 in
theorem after_p (j : Jb) (k : Int) (h : OkJ j) (hk : k = 1 ∨ k = 2) (tk : Tok) : PureV Try.prog 24 [j.av, .list tk 1 [.int .i64 k]] (.tup [tgv (strP j k), .int .i64 0]) := by
  refine PureV.of_ev (E := Try.E 18 (fun _ => ([], [])) fs207) (Try.envOK 18 (fun _ => ([], [])) fs207 fs207_ok) (.tup (by simp; exact ⟨tgv_plain _, .int⟩)) Try.kp24 Try.func24 rfl (by kernel_rfl) (by simp [Try.E]) (Callable.of Try.func24 (by kernel_rfl) (by kernel_rfl)) (by kernel_rfl) ?_
  intro σ
  have hc := fun tk => cks_p j k h hk tk
  have ha := fun tk => rafter_p j k h hk tk
  simp only [Jb.av, Jb.cells] at hc ha ⊢
  simp -implicitDefEqProofs (maxSteps := 2000000) (disch := omega) only [go_sem, reduceCtorEq, Nat.reduceAdd, Nat.reduceSub, Nat.reduceMul, Nat.reduceLT, Nat.reduceLeDiff, Nat.reduceEqDiff, Nat.reduceBEq, Int.reduceToNat, Int.reduceLT, Int.reduceLE, Int.reduceEq, Int.reduceNeg, Int.reduceAdd, Int.reduceSub, Int.reduceMul, ↓reduceIte, Int.reduceBEq, Int.reduceBNe]
  refine hc _ _ _ ?_
  simp -implicitDefEqProofs (maxSteps := 2000000) (disch := omega) only [go_sem, reduceCtorEq, Nat.reduceAdd, Nat.reduceSub, Nat.reduceMul, Nat.reduceLT, Nat.reduceLeDiff, Nat.reduceEqDiff, Nat.reduceBEq, Int.reduceToNat, Int.reduceLT, Int.reduceLE, Int.reduceEq, Int.reduceNeg, Int.reduceAdd, Int.reduceSub, Int.reduceMul, ↓reduceIte, Int.reduceBEq, Int.reduceBNe]
  refine ha _ _ _ ?_
  simp only [stlv, Jb.file, List.cons_append, List.nil_append]
  simp -implicitDefEqProofs (maxSteps := 2000000) (disch := omega) only [go_sem, reduceCtorEq, Nat.reduceAdd, Nat.reduceSub, Nat.reduceMul, Nat.reduceLT, Nat.reduceLeDiff, Nat.reduceEqDiff, Nat.reduceBEq, Int.reduceToNat, Int.reduceLT, Int.reduceLE, Int.reduceEq, Int.reduceNeg, Int.reduceAdd, Int.reduceSub, Int.reduceMul, ↓reduceIte, Int.reduceBEq, Int.reduceBNe]
  exact ⟨rfl, rfl, rfl, rfl, rfl, rfl, trivial⟩
def inN_s := spec2 tRng tI fun x n => some (.bool (decide (x.lo ≤ n ∧ n ≤ x.hi)))
theorem inN_ok : ∀ xs v, inN_s xs = some v → PureV Try.prog 22 xs v := by
  refine spec2_ok fun x n v h => ?_
  simp only [Option.some.injEq] at h; subst h
  refine PureV.of_ev (E := Try.E 15 (fun _ => ([], [])) fs0) (Try.envOK 15 (fun _ => ([], [])) fs0 fs0_ok) (.bool) Try.kp22 Try.func22 rfl (by kernel_rfl) (by simp [Try.E]) (Callable.of Try.func22 (by kernel_rfl) (by kernel_rfl)) (by kernel_rfl) ?_
  intro σ
  simp only [tRng, tI, Rng.av]
  simp -implicitDefEqProofs (maxSteps := 2000000) (disch := omega) only [go_sem, reduceCtorEq, Nat.reduceAdd, Nat.reduceSub, Nat.reduceMul, Nat.reduceLT, Nat.reduceLeDiff, Nat.reduceEqDiff, Nat.reduceBEq, Int.reduceToNat, Int.reduceLT, Int.reduceLE, Int.reduceEq, Int.reduceNeg, Int.reduceAdd, Int.reduceSub, Int.reduceMul, ↓reduceIte, Int.reduceBEq, Int.reduceBNe]
  refine ⟨fun h1 => ⟨fun h2 => ?_, fun h2 => ?_⟩, fun h1 => ?_⟩ <;> simp [h1, *]
set_option maxHeartbeats 400000000 in
theorem filedOf_c (r : Nat) (j : Jb) (h1 : okB (-60) 60 j.pitch) (h2 : okB 0 100 j.tip) (h3 : okB 0 100 j.root) (σ : List AObj) (hp : PotAt σ r) (Q : AV → List AObj → Prop) (h : ∀ s' p a b junk, j.pitch.lo ≤ p → p ≤ j.pitch.hi → (-1000 ≤ a ∧ a ≤ 1000) → (-1000 ≤ b ∧ b ≤ 1000) → Q (.agg [.int .i64 p, .int .i64 a, .int .i64 b]) (pw σ r s' ++ junk)) :
    ACalls Try.prog 19 [.ptr r 0, j.av] σ Q := by
  obtain ⟨a1, a2, a3⟩ := h1
  obtain ⟨b1, b2, b3⟩ := h2
  obtain ⟨c1, c2, c3⟩ := h3
  refine ACalls.of_ev (E := Try.E 21 Try.ord19 fs0) (Try.envOK 21 Try.ord19 fs0 fs0_ok) Try.kp19 Try.func19 rfl (by kernel_rfl) (by simp [Try.E]) (Callable.of Try.func19 (by kernel_rfl) (by kernel_rfl)) (by kernel_rfl) ?_
  have hr := hp.lt
  simp only [Jb.av, Jb.cells]
  simp -implicitDefEqProofs (maxSteps := 2000000) (disch := omega) only [go_sem, reduceCtorEq, Nat.reduceAdd, Nat.reduceSub, Nat.reduceMul, Nat.reduceLT, Nat.reduceLeDiff, Nat.reduceEqDiff, Nat.reduceBEq, Int.reduceToNat, Int.reduceLT, Int.reduceLE, Int.reduceEq, Int.reduceNeg, Int.reduceAdd, Int.reduceSub, Int.reduceMul, ↓reduceIte, Int.reduceBEq, Int.reduceBNe, length_pw, hget_pw0, hget_pw, hset_pw0, hset_pw]
  refine inner_c r j.pitch ⟨⟨by omega, a2⟩, by omega⟩ _ hp.app _ fun s1 p J1 p1 p2 => ?_
  rw [pw_app hr, List.append_assoc]
  simp -implicitDefEqProofs (maxSteps := 2000000) (disch := omega) only [go_sem, reduceCtorEq, Nat.reduceAdd, Nat.reduceSub, Nat.reduceMul, Nat.reduceLT, Nat.reduceLeDiff, Nat.reduceEqDiff, Nat.reduceBEq, Int.reduceToNat, Int.reduceLT, Int.reduceLE, Int.reduceEq, Int.reduceNeg, Int.reduceAdd, Int.reduceSub, Int.reduceMul, ↓reduceIte, Int.reduceBEq, Int.reduceBNe, length_pw, hget_pw0, hget_pw, hset_pw0, hset_pw]
  refine inner_c r j.tip ⟨⟨by omega, b2⟩, by omega⟩ _ (hp.pw _).app _ fun s2 a J2 q1 q2 => ?_
  rw [pw_pwa hr, List.append_assoc]
  simp -implicitDefEqProofs (maxSteps := 2000000) (disch := omega) only [go_sem, reduceCtorEq, Nat.reduceAdd, Nat.reduceSub, Nat.reduceMul, Nat.reduceLT, Nat.reduceLeDiff, Nat.reduceEqDiff, Nat.reduceBEq, Int.reduceToNat, Int.reduceLT, Int.reduceLE, Int.reduceEq, Int.reduceNeg, Int.reduceAdd, Int.reduceSub, Int.reduceMul, ↓reduceIte, Int.reduceBEq, Int.reduceBNe, length_pw, hget_pw0, hget_pw, hset_pw0, hset_pw]
  refine inner_c r j.root ⟨⟨by omega, c2⟩, by omega⟩ _ (hp.pw _).app _ fun s3 b J3 r1 r2 => ?_
  rw [pw_pwa hr, List.append_assoc]
  simp -implicitDefEqProofs (maxSteps := 2000000) (disch := omega) only [go_sem, reduceCtorEq, Nat.reduceAdd, Nat.reduceSub, Nat.reduceMul, Nat.reduceLT, Nat.reduceLeDiff, Nat.reduceEqDiff, Nat.reduceBEq, Int.reduceToNat, Int.reduceLT, Int.reduceLE, Int.reduceEq, Int.reduceNeg, Int.reduceAdd, Int.reduceSub, Int.reduceMul, ↓reduceIte, Int.reduceBEq, Int.reduceBNe, length_pw, hget_pw0, hget_pw, hset_pw0, hset_pw]
  exact h s3 p a b _ p1 p2 ⟨by omega, by omega⟩ ⟨by omega, by omega⟩
set_option maxHeartbeats 400000000 in
theorem strike_c (r : Nat) (j : Jb) (hj : OkF j) (p a b k : Int) (hk : k = 1 ∨ k = 2) (hpb : -100000 ≤ p ∧ p ≤ 100000) (ha : -100000 ≤ a ∧ a ≤ 100000) (hb : -100000 ≤ b ∧ b ≤ 100000) (σ : List AObj) (hp : PotAt σ r) (Q : AV → List AObj → Prop)
    (h : ∀ s' p' a' b' junk, (k = 1 → p + j.up.lo ≤ p' ∧ p' ≤ p + j.up.hi) → (k = 2 → p - j.down.hi ≤ p' ∧ p' ≤ p - j.down.lo) → (a - 12 ≤ a' ∧ a' ≤ a) → (b - 12 ≤ b' ∧ b' ≤ b) → Q (.agg [.int .i64 p', .int .i64 a', .int .i64 b']) (pw σ r s' ++ junk)) :
    ACalls Try.prog 25 [.ptr r 0, j.av, .agg [.int .i64 p, .int .i64 a, .int .i64 b], .int .i64 k] σ Q := by
  obtain ⟨⟨a1, a2, a3⟩, ⟨b1, b2, b3⟩, ⟨c1, c2, c3⟩, ⟨d1, d2, d3⟩, _⟩ := hj
  refine ACalls.of_ev (E := Try.E 49 Try.ord25 fs0) (Try.envOK 49 Try.ord25 fs0 fs0_ok) Try.kp25 Try.func25 rfl (by kernel_rfl) (by simp [Try.E]) (Callable.of Try.func25 (by kernel_rfl) (by kernel_rfl)) (by kernel_rfl) ?_
  have hr := hp.lt
  simp only [Jb.av, Jb.cells]
  rcases hk with rfl | rfl
  · simp -implicitDefEqProofs (maxSteps := 2000000) (disch := omega) only [go_sem, reduceCtorEq, Nat.reduceAdd, Nat.reduceSub, Nat.reduceMul, Nat.reduceLT, Nat.reduceLeDiff, Nat.reduceEqDiff, Nat.reduceBEq, Int.reduceToNat, Int.reduceLT, Int.reduceLE, Int.reduceEq, Int.reduceNeg, Int.reduceAdd, Int.reduceSub, Int.reduceMul, ↓reduceIte, Int.reduceBEq, Int.reduceBNe, length_pw, hget_pw0, hget_pw, hset_pw0, hset_pw]
    refine inner_c r j.up ⟨⟨by omega, a2⟩, by omega⟩ _ hp.app _ fun s1 x J1 p1 p2 => ?_
    rw [pw_app hr, List.append_assoc]
    simp -implicitDefEqProofs (maxSteps := 2000000) (disch := omega) only [go_sem, reduceCtorEq, Nat.reduceAdd, Nat.reduceSub, Nat.reduceMul, Nat.reduceLT, Nat.reduceLeDiff, Nat.reduceEqDiff, Nat.reduceBEq, Int.reduceToNat, Int.reduceLT, Int.reduceLE, Int.reduceEq, Int.reduceNeg, Int.reduceAdd, Int.reduceSub, Int.reduceMul, ↓reduceIte, Int.reduceBEq, Int.reduceBNe, length_pw, hget_pw0, hget_pw, hset_pw0, hset_pw]
    refine inner_c r j.wt ⟨⟨by omega, c2⟩, by omega⟩ _ (hp.pw _).app _ fun s2 y J2 q1 q2 => ?_
    rw [pw_pwa hr, List.append_assoc]
    simp -implicitDefEqProofs (maxSteps := 2000000) (disch := omega) only [go_sem, reduceCtorEq, Nat.reduceAdd, Nat.reduceSub, Nat.reduceMul, Nat.reduceLT, Nat.reduceLeDiff, Nat.reduceEqDiff, Nat.reduceBEq, Int.reduceToNat, Int.reduceLT, Int.reduceLE, Int.reduceEq, Int.reduceNeg, Int.reduceAdd, Int.reduceSub, Int.reduceMul, ↓reduceIte, Int.reduceBEq, Int.reduceBNe, length_pw, hget_pw0, hget_pw, hset_pw0, hset_pw]
    exact h s2 (p + x) (a - y) b _ (fun _ => ⟨by omega, by omega⟩) (fun h => by omega) ⟨by omega, by omega⟩ ⟨by omega, by omega⟩
  · simp -implicitDefEqProofs (maxSteps := 2000000) (disch := omega) only [go_sem, reduceCtorEq, Nat.reduceAdd, Nat.reduceSub, Nat.reduceMul, Nat.reduceLT, Nat.reduceLeDiff, Nat.reduceEqDiff, Nat.reduceBEq, Int.reduceToNat, Int.reduceLT, Int.reduceLE, Int.reduceEq, Int.reduceNeg, Int.reduceAdd, Int.reduceSub, Int.reduceMul, ↓reduceIte, Int.reduceBEq, Int.reduceBNe, length_pw, hget_pw0, hget_pw, hset_pw0, hset_pw]
    refine inner_c r j.down ⟨⟨by omega, b2⟩, by omega⟩ _ hp.app _ fun s1 x J1 p1 p2 => ?_
    rw [pw_app hr, List.append_assoc]
    simp -implicitDefEqProofs (maxSteps := 2000000) (disch := omega) only [go_sem, reduceCtorEq, Nat.reduceAdd, Nat.reduceSub, Nat.reduceMul, Nat.reduceLT, Nat.reduceLeDiff, Nat.reduceEqDiff, Nat.reduceBEq, Int.reduceToNat, Int.reduceLT, Int.reduceLE, Int.reduceEq, Int.reduceNeg, Int.reduceAdd, Int.reduceSub, Int.reduceMul, ↓reduceIte, Int.reduceBEq, Int.reduceBNe, length_pw, hget_pw0, hget_pw, hset_pw0, hset_pw]
    refine inner_c r j.wr ⟨⟨by omega, d2⟩, by omega⟩ _ (hp.pw _).app _ fun s2 y J2 q1 q2 => ?_
    rw [pw_pwa hr, List.append_assoc]
    simp -implicitDefEqProofs (maxSteps := 2000000) (disch := omega) only [go_sem, reduceCtorEq, Nat.reduceAdd, Nat.reduceSub, Nat.reduceMul, Nat.reduceLT, Nat.reduceLeDiff, Nat.reduceEqDiff, Nat.reduceBEq, Int.reduceToNat, Int.reduceLT, Int.reduceLE, Int.reduceEq, Int.reduceNeg, Int.reduceAdd, Int.reduceSub, Int.reduceMul, ↓reduceIte, Int.reduceBEq, Int.reduceBNe, length_pw, hget_pw0, hget_pw, hset_pw0, hset_pw]
    exact h s2 (p - x) a (b - y) _ (fun h => by omega) (fun _ => ⟨by omega, by omega⟩) ⟨by omega, by omega⟩ ⟨by omega, by omega⟩
def tongueJ (x : Rng) : Jb := ⟨x, ⟨30, 32⟩, ⟨40, 41⟩, ⟨3, 4⟩, ⟨2, 3⟩, ⟨1, 2⟩, ⟨1, 1⟩, 20, [⟨-2, 1⟩, ⟨0, 3⟩], 5, 1⟩
def tongueJ_s := spec1 tRng fun x => some (tongueJ x).av
theorem tongueJ_ok : ∀ xs v, tongueJ_s xs = some v → PureV Try.prog 40 xs v := by
  refine spec1_ok fun x v h => ?_
  simp only [Option.some.injEq] at h; subst h
  refine PureV.of_ev (E := Try.E 16 (fun _ => ([], [])) fs0) (Try.envOK 16 (fun _ => ([], [])) fs0 fs0_ok) (Jb.plain _) Try.kp40 Try.func40 rfl (by kernel_rfl) (by simp [Try.E]) (Callable.of Try.func40 (by kernel_rfl) (by kernel_rfl)) (by kernel_rfl) ?_
  intro σ
  simp only [tRng, Rng.av]
  simp -implicitDefEqProofs (maxSteps := 2000000) (disch := omega) only [go_sem, reduceCtorEq, Nat.reduceAdd, Nat.reduceSub, Nat.reduceMul, Nat.reduceLT, Nat.reduceLeDiff, Nat.reduceEqDiff, Nat.reduceBEq, Int.reduceToNat, Int.reduceLT, Int.reduceLE, Int.reduceEq, Int.reduceNeg, Int.reduceAdd, Int.reduceSub, Int.reduceMul, ↓reduceIte, Int.reduceBEq, Int.reduceBNe]
  exact ⟨rfl, rfl, rfl, rfl, rfl, rfl, rfl, rfl, rfl, rfl, rfl, rfl, rfl, rfl, rfl, ⟨rfl, .inl rfl, .inl rfl⟩, rfl, rfl, trivial⟩
end Go.Proofs
set_option linter.unusedSimpArgs false
set_option linter.unusedVariables false
set_option maxRecDepth 100000
namespace Go.Proofs
open Go Go.Mu

def fs212 (f : FuncId) (xs : List AV) : Option AV := if f = 22 then inN_s xs else if f = 40 then tongueJ_s xs else fs210 f xs
theorem fs212_ok : ∀ f xs v, fs212 f xs = some v → PureV Try.prog f xs v := by
  intro f xs v h
  unfold fs212 at h
  split at h
  · rename_i e; subst e; exact inN_ok _ _ h
  split at h
  · rename_i e; subst e; exact tongueJ_ok _ _ h
  exact fs210_ok _ _ _ h
attribute [go_sem] fs212 inN_s tongueJ_s
set_option maxHeartbeats 400000000 in
theorem filingAwake_c (σ : List AObj) (Q : AV → List AObj → Prop) (h : ∀ σ', Q (.bool true) σ') : ACalls Try.prog 18 [] σ Q := by
  have o1 : OkJ (tongueJ ⟨-12, -8⟩) := by decide
  have o2 : OkJ (tongueJ ⟨4, 6⟩) := by decide
  have o3 : OkJ ⟨⟨-3, 2⟩, ⟨30, 32⟩, ⟨40, 41⟩, ⟨3, 4⟩, ⟨2, 3⟩, ⟨1, 2⟩, ⟨1, 1⟩, 20, [⟨-2, 1⟩, ⟨0, 3⟩], 5, 1⟩ := by decide
  have g1 : guidedS (tongueJ ⟨-12, -8⟩) = some 3 := by kernel_rfl
  have g2 : nextS (tongueJ ⟨4, 6⟩) = some 2 := by kernel_rfl
  have g3 : nextV (tongueJ ⟨4, 6⟩) (some 2) = (2, 2, 0) := by kernel_rfl
  have g4 : passS ⟨⟨-3, 2⟩, ⟨30, 32⟩, ⟨40, 41⟩, ⟨3, 4⟩, ⟨2, 3⟩, ⟨1, 2⟩, ⟨1, 1⟩, 20, [⟨-2, 1⟩, ⟨0, 3⟩], 5, 1⟩ ⟨-3, 2⟩ = 1 := by kernel_rfl
  have g5 : gateL ⟨0, [⟨44000, 44010⟩], []⟩ 0 9 = (10, 0) := by kernel_rfl
  have t : ∀ x, (tongueJ x).av = .agg [.int .i64 x.lo, .int .i64 x.hi, .int .i64 30, .int .i64 32, .int .i64 40, .int .i64 41, .int .i64 3, .int .i64 4, .int .i64 2, .int .i64 3, .int .i64 1, .int .i64 2, .int .i64 1, .int .i64 1, .int .i64 20, .list .no 2 [.agg [.int .i64 (-2), .int .i64 1], .agg [.int .i64 0, .int .i64 3]], .int .i64 5, .int .i64 1] := fun _ => rfl
  have c1 := fun σ Q => guided_c o1 σ Q
  have c2 := fun σ Q => rnext_c o2 σ Q
  rw [g1, t] at c1
  rw [g2, g3, t] at c2
  simp only [optV] at c1 c2
  refine ACalls.of_ev (E := Try.E 70 (fun _ => ([], [])) fs212) (Try.envOK 70 (fun _ => ([], [])) fs212 fs212_ok) Try.kp18 Try.func18 rfl (by kernel_rfl) (by simp [Try.E]) (Callable.of Try.func18 (by kernel_rfl) (by kernel_rfl)) (by kernel_rfl) ?_
  simp -implicitDefEqProofs (maxSteps := 2000000) (disch := omega) only [go_sem, reduceCtorEq, Nat.reduceAdd, Nat.reduceSub, Nat.reduceMul, Nat.reduceLT, Nat.reduceLeDiff, Nat.reduceEqDiff, Nat.reduceBEq, Int.reduceToNat, Int.reduceLT, Int.reduceLE, Int.reduceEq, Int.reduceNeg, Int.reduceAdd, Int.reduceSub, Int.reduceMul, ↓reduceIte, Int.reduceBEq, Int.reduceBNe, t]
  refine c1 _ _ fun J1 => ?_
  simp -implicitDefEqProofs (maxSteps := 2000000) (disch := omega) only [go_sem, reduceCtorEq, Nat.reduceAdd, Nat.reduceSub, Nat.reduceMul, Nat.reduceLT, Nat.reduceLeDiff, Nat.reduceEqDiff, Nat.reduceBEq, Int.reduceToNat, Int.reduceLT, Int.reduceLE, Int.reduceEq, Int.reduceNeg, Int.reduceAdd, Int.reduceSub, Int.reduceMul, ↓reduceIte, Int.reduceBEq, Int.reduceBNe, t]
  refine c2 _ _ fun J2 => ?_
  simp -implicitDefEqProofs (maxSteps := 2000000) (disch := omega) only [go_sem, reduceCtorEq, Nat.reduceAdd, Nat.reduceSub, Nat.reduceMul, Nat.reduceLT, Nat.reduceLeDiff, Nat.reduceEqDiff, Nat.reduceBEq, Int.reduceToNat, Int.reduceLT, Int.reduceLE, Int.reduceEq, Int.reduceNeg, Int.reduceAdd, Int.reduceSub, Int.reduceMul, ↓reduceIte, Int.reduceBEq, Int.reduceBNe, t, o3, g4, g5]
  exact h _
end Go.Proofs
