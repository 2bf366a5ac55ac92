/- Texts of a proof: lemmas. -/
import Derived.Test.YtbkjffpembflcaaGreatK1
import Derived.Test.YtbkjffpembflcaaGreatP1
import Derived.Test.YtbkjffpembflcaaGreatUA
import Derived.Test.YtbkjffpembflcaaGreatGA
import Derived.Test.YtbkjffpembflcaaGreatAJ
import Derived.Test.YtbkjffpembflcaaGreatBC
import Derived.Test.YtbkjffpembflcaaGreatMV
import Derived.Test.YtbkjffpembflcaaGreatI0
set_option linter.unusedSimpArgs false
set_option linter.unusedVariables false
set_option maxRecDepth 100000
namespace Go.Proofs
open Go Go.Mu

theorem hgetK_pwa {σ l : List AObj} {r q : Nat} {s : Int} {o : AObj} (h : hget σ q = some o) (hne : q ≠ r) : hget (pw σ r s ++ l) q = some o := by
  rw [hget_app (by rw [length_pw]; exact hget_lt h)]
  unfold pw
  rw [hget_ne (fun e => hne e.symm)]; exact h
theorem noTruth {e : Ear} (hc : ck e = 0) (hn : truthsR e = []) (h1 : 1 ≤ e.tones.length) : tonesL e = ([], 9) ∧ withinL e 0 ⟨1, 2⟩ = (0, 9) ∧ valuesL e 0 = ([], 9) := by
  have hL := truthsR_nil.1 hn
  have hk : knownL e = ([], 9) := by unfold knownL; rw [if_neg (by simp [hc]), if_pos hL]
  have ha : askL e 0 = ([], 9) := by unfold askL; rw [if_neg (by simp [hc]), if_neg (by simp)]; exact hk
  have h2 : ckWant e.tones.length 0 ⟨1, 2⟩ = 0 := by unfold ckWant; rw [if_neg (by omega), if_neg (by decide)]
  have h3 : oneE e 0 = 0 := by unfold oneE; rw [if_pos (by omega)]
  refine ⟨?_, ?_, ?_⟩
  · unfold tonesL; rw [hk, if_neg (by decide)]
  · unfold withinL; rw [h2, ha]; rfl
  · unfold valuesL; rw [h3, ha]; rfl
def fs73 (f : FuncId) (xs : List AV) : Option AV := if f = 25 then within_m_s xs else if f = 35 then beats_m_s xs else if f = 16 then values_s xs else if f = 21 then sameInts_s xs else if f = 30 then inR_s xs else if f = 29 then lplace_s xs else if f = 33 then lap_s xs else if f = 31 then lvd_s xs else fs22 f xs
theorem fs73_ok : ∀ f xs v, fs73 f xs = some v → PureV Tryz.prog f xs v := by
  intro f xs v h
  unfold fs73 at h
  split at h
  · rename_i e; subst e; exact within_m_ok _ _ h
  split at h
  · rename_i e; subst e; exact beats_m_ok _ _ h
  split at h
  · rename_i e; subst e; exact values_ok _ _ h
  split at h
  · rename_i e; subst e; exact sameInts_ok _ _ h
  split at h
  · rename_i e; subst e; exact inR_ok _ _ h
  split at h
  · rename_i e; subst e; exact lplace_ok _ _ h
  split at h
  · rename_i e; subst e; exact lap_ok _ _ h
  split at h
  · rename_i e; subst e; exact lvd_ok _ _ h
  exact fs22_ok _ _ _ h
attribute [go_sem] fs73 within_m_s beats_m_s values_s sameInts_s inR_s lplace_s lap_s lvd_s
set_option maxHeartbeats 400000000 in
theorem allJ_round {sl : Int} {ts : List Rng} {rs : List Rd} {R : List (List Int)} {A : List Rng} {r R4 i : Nat} (hn4 : R4 ≠ r) (hts3 : ts.length ≤ 3) (hrs3 : rs.length ≤ 100) (hrl : R.length ≤ 9261) (hRne : R ≠ []) (hAl : A.length = ts.length) (hit : i < ts.length) (hlR : ∀ t ∈ R, t.length = ts.length)
    (hhij : ∀ j : Nat, j < ts.length → i ≠ j → higherL ⟨sl, ts, rs⟩ i j = (verd (R.filter fun t => decide (tg t j < tg t i)).length R.length, 0))
    (hbij : ∀ j : Nat, j < ts.length → i ≠ j → ∀ s, 1 ≤ s → s ≤ 20 → beatsL ⟨sl, ts, rs⟩ i j s = (spanL (fun t => dist (tg t i) (tg t j) * s / 100) R, 0))
    (htj : ∀ j : Nat, j < ts.length → ∀ t ∈ R, 1 ≤ tg t j ∧ tg t j ≤ 100000)
    (K : List Item) (Q' : Post) (hK : todoOK (Tryz.E 322 Tryz.ord4 fs73) K = true) (j : Nat) (τ' : List AObj) (hj : j < A.length) (hJ : PotAt τ' r ∧ hget τ' R4 = some (AObj.cells [.int .i64 sl, .list .no 2 (ts.map Rng.av), .list .no 6 (rs.map Rd.av)]))
    (ih2 : ∀ τ', PotAt τ' r ∧ hget τ' R4 = some (AObj.cells [.int .i64 sl, .list .no 2 (ts.map Rng.av), .list .no 6 (rs.map Rd.av)]) → ARun (Tryz.E 322 Tryz.ord4 fs73) none (.inLoop (loopAt Tryz.f4 38) :: K) ⟨Tryz.kp4, [], upd [(2, AV.bool false), (3, .ptr r 0), (4, .ptr R4 0), (5, .list .no 1 (R.map isv)), (8, .list .no 2 (A.map Rng.av)), (14, .int .i64 i), (25, .int .i64 0)] [(25, .int .i64 ((j + 1 : Nat) : Int))]⟩ τ' Q') :
    ev (Tryz.E 322 Tryz.ord4 fs73) none 100000 (.code (loopAt Tryz.f4 38) :: .inLoop (loopAt Tryz.f4 38) :: K) ⟨Tryz.kp4, [], upd [(2, AV.bool false), (3, .ptr r 0), (4, .ptr R4 0), (5, .list .no 1 (R.map isv)), (8, .list .no 2 (A.map Rng.av)), (14, .int .i64 i), (25, .int .i64 0)] [(25, .int .i64 j)]⟩ τ' Q' := by
  obtain ⟨hp', h4z'⟩ := hJ
  obtain ⟨c, hc⟩ : ∃ c, (loopAt Tryz.f4 38) = c := ⟨_, rfl⟩
  rw [hc] at ih2 ⊢
  conv at hc => lhs; whnf
  subst hc
  simp only [upd, ins, Nat.reduceEqDiff, ↓reduceIte] at ih2 ⊢
  have hjt : j < ts.length := by omega
  by_cases hij : i = j
  · subst hij
    clear hhij hbij htj
    simp -implicitDefEqProofs (maxSteps := 2000000) (disch := omega) only [go_sem, reduceCtorEq, Nat.reduceAdd, Nat.reduceSub, Nat.reduceMul, Nat.reduceLT, Nat.reduceLeDiff, Nat.reduceEqDiff, Nat.reduceBEq, Int.reduceToNat, Int.reduceLT, Int.reduceLE, Int.reduceEq, Int.reduceNeg, Int.reduceAdd, Int.reduceSub, Int.reduceMul, ↓reduceIte, Int.reduceBEq, Int.reduceBNe]
    exact (ih2 _ ⟨hp', h4z'⟩).castS rfl (by simp [upd, ins, subF, lookA])
  have hij' : ((i : Int) = (j : Int)) = False := eq_false (by omega)
  have e1 := hhij j hjt hij
  have e2 := hbij j hjt hij
  have hti := htj i hit
  have htj' := htj j hjt
  clear hhij hbij htj
  have h4p : ∀ s l, hget (pw τ' r s ++ l) R4 = some (AObj.cells [.int .i64 sl, .list .no 2 (ts.map Rng.av), .list .no 6 (rs.map Rd.av)]) := fun s l => hgetK_pwa h4z' hn4
  have hpp : ∀ s l, PotAt (pw τ' r s ++ l) r := fun s l => (hp'.pw s).app
  simp -implicitDefEqProofs (maxSteps := 2000000) (disch := omega) only [go_sem, reduceCtorEq, Nat.reduceAdd, Nat.reduceSub, Nat.reduceMul, Nat.reduceLT, Nat.reduceLeDiff, Nat.reduceEqDiff, Nat.reduceBEq, Int.reduceToNat, Int.reduceLT, Int.reduceLE, Int.reduceEq, Int.reduceNeg, Int.reduceAdd, Int.reduceSub, Int.reduceMul, ↓reduceIte, Int.reduceBEq, Int.reduceBNe, hij']
  refine within_c r 1 20 (by omega) (by omega) _ hp' _ fun s3 sc n1 n2 => ?_
  have hsc : 1 ≤ sc ∧ sc ≤ 20 := by omega
  clear n1 n2
  have e3 := e2 sc hsc.1 hsc.2
  clear e2
  obtain ⟨g, hg⟩ : ∃ g : List Int → Int, g = fun t => dist (tg t i) (tg t j) * sc / 100 := ⟨_, rfl⟩
  rw [← hg] at e3
  have hgb : ∀ t ∈ R, 0 ≤ g t ∧ g t ≤ 99999 := fun t ht => by
    have a1 := hti t ht
    have a2 := htj' t ht
    have hd : 0 ≤ dist (tg t i) (tg t j) ∧ dist (tg t i) (tg t j) ≤ 100000 := by simp only [dist]; omega
    have hm := mul_le (a := dist (tg t i) (tg t j)) (s := sc) (by omega) (by omega)
    have hm2 : dist (tg t i) (tg t j) * sc ≤ 100000 * 20 := by
      have := Int.mul_le_mul hd.2 hsc.2 (by omega) (by omega); omega
    rw [hg]
    simp only
    omega
  have hfar := spanL_far hRne hgb
  rw [← hfar] at e3
  clear hfar
  simp -implicitDefEqProofs (maxSteps := 2000000) (disch := omega) only [go_sem, reduceCtorEq, Nat.reduceAdd, Nat.reduceSub, Nat.reduceMul, Nat.reduceLT, Nat.reduceLeDiff, Nat.reduceEqDiff, Nat.reduceBEq, Int.reduceToNat, Int.reduceLT, Int.reduceLE, Int.reduceEq, Int.reduceNeg, Int.reduceAdd, Int.reduceSub, Int.reduceMul, ↓reduceIte, Int.reduceBEq, Int.reduceBNe, h4p, length_pw, hget_pw0, hget_pw, hset_pw0, hset_pw, Rng.av]
  obtain ⟨τ2, h2⟩ : ∃ τ2, pw τ' r s3 = τ2 := ⟨_, rfl⟩
  have hl2 : τ2.length = τ'.length := by rw [← h2, length_pw]
  have hp2 : PotAt τ2 r := by rw [← h2]; exact hp'.pw s3
  have h42 : hget τ2 R4 = some (AObj.cells [.int .i64 sl, .list .no 2 (ts.map Rng.av), .list .no 6 (rs.map Rd.av)]) := by have := h4p s3 []; rwa [List.append_nil, h2] at this
  rw [h2, ← hl2]
  clear h4p hpp h2 hl2 hp' h4z'
  refine ARun.forG (Tryz.envOK 322 Tryz.ord4 fs73 fs73_ok) R.length (fun _ => True) (fun k => [(26, .int .i64 ((R.take k).filter fun t => decide (tg t j < tg t i)).length), (29, .int .i64 k)]) (fun k j3 => τ2 ++ (.cells [.int .i64 ((R.take k).foldl (spanS g) ⟨99999, 0⟩).lo, .int .i64 ((R.take k).foldl (spanS g) ⟨99999, 0⟩).hi] :: j3)) [] (by kernel_rfl) (by simp only [todoOK_cons, hK, Bool.and_true]; kernel_rfl) (by simp) (by simp [upd, ins, subF, lookA]) trivial ?_ ?_
  · clear hK ih2 e1 e3
    intro K Q' hK k j4 hk _ ih3
    have hmk := List.getElem_mem hk
    have hri : idx (R.map isv) (k : Int) = some (isv R[k]) := idx_iss hk
    have hra : idx (R[k].map (AV.int .i64)) (i : Int) = some (.int .i64 (tg R[k] i)) := idx_tg (by omega) (by rw [hlR _ hmk]; omega)
    have hrb : idx (R[k].map (AV.int .i64)) (j : Int) = some (.int .i64 (tg R[k] j)) := idx_tg (by omega) (by rw [hlR _ hmk]; omega)
    have hub := hti _ hmk
    have hvb := htj' _ hmk
    have hgk := hgb _ hmk
    have hcb : ((R.take k).filter fun t => decide (tg t j < tg t i)).length ≤ 9261 := by have := List.length_filter_le (fun t => decide (tg t j < tg t i)) (R.take k); rw [List.length_take] at this; omega
    have hW := span_bound (f := g) (R := R.take k) ⟨99999, 0⟩ (by simp) fun t ht => hgb t (List.mem_of_mem_take ht)
    have hge : g R[k] = dist (tg R[k] i) (tg R[k] j) * sc / 100 := by rw [hg]
    rw [filter_take_succ hk, foldl_take_succ hk] at ih3
    generalize ((R.take k).filter fun t => decide (tg t j < tg t i)).length = C at hcb ih3 ⊢
    generalize (R.take k).foldl (spanS g) ⟨99999, 0⟩ = W at hW ih3 ⊢
    obtain ⟨wa, wb⟩ := W
    simp only [spanS, mn, mx] at hW ih3
    rw [hge] at hgk ih3
    clear hg hgb hti htj' hge hlR
    generalize tg R[k] i = u at hra hub hgk ih3
    generalize tg R[k] j = v at hrb hvb hgk ih3
    generalize R[k] = Rk at hri hra hrb
    simp only [isv] at hri
    have hd : 0 ≤ dist u v ∧ dist u v ≤ 100000 := by simp only [dist]; omega
    have hm := mul_le (a := dist u v) (s := sc) (by omega) (by omega)
    generalize hdd : dist u v = d at hd hm hgk ih3
    have hwr : IntKind.i64.wrap (d * sc) = d * sc := wrap64 (by omega) (by omega)
    have htd : (d * sc).tdiv 100 = d * sc / 100 := Int.tdiv_eq_ediv_of_nonneg hm.1
    have hw2 : IntKind.i64.wrap (d * sc / 100) = d * sc / 100 := wrap64 (by omega) (by omega)
    clear hd hm hgk hsc hW
    by_cases huv : v < u
    · rw [if_pos (by simpa using huv)] at ih3
      as_aux_lemma =>
      simp -implicitDefEqProofs (maxSteps := 2000000) (disch := omega) only [go_sem, reduceCtorEq, Nat.reduceAdd, Nat.reduceSub, Nat.reduceMul, Nat.reduceLT, Nat.reduceLeDiff, Nat.reduceEqDiff, Nat.reduceBEq, Int.reduceToNat, Int.reduceLT, Int.reduceLE, Int.reduceEq, Int.reduceNeg, Int.reduceAdd, Int.reduceSub, Int.reduceMul, ↓reduceIte, Int.reduceBEq, Int.reduceBNe, hri, hra, hrb, hdd, hwr, htd, hw2, length_pw, hget_pw0, hget_pw, hset_pw0, hset_pw, Rng.av]
      exact (ih3 trivial j4).castS rfl (by simp [upd, ins, subF, lookA])
    · rw [if_neg (by simpa using huv)] at ih3
      as_aux_lemma =>
      simp -implicitDefEqProofs (maxSteps := 2000000) (disch := omega) only [go_sem, reduceCtorEq, Nat.reduceAdd, Nat.reduceSub, Nat.reduceMul, Nat.reduceLT, Nat.reduceLeDiff, Nat.reduceEqDiff, Nat.reduceBEq, Int.reduceToNat, Int.reduceLT, Int.reduceLE, Int.reduceEq, Int.reduceNeg, Int.reduceAdd, Int.reduceSub, Int.reduceMul, ↓reduceIte, Int.reduceBEq, Int.reduceBNe, hri, hra, hrb, hdd, hwr, htd, hw2, length_pw, hget_pw0, hget_pw, hset_pw0, hset_pw, Rng.av]
      exact (ih3 trivial j4).castS rfl (by simp [upd, ins, subF, lookA])
  · intro j4 _
    rw [List.take_length]
    have hcb := List.length_filter_le (fun t => decide (tg t j < tg t i)) R
    rw [verd_int] at e1
    clear hg hgb hti htj' hlR
    generalize (R.filter fun t => decide (tg t j < tg t i)).length = C at hcb e1 ⊢
    generalize hz0 : (if (C : Int) = (R.length : Int) then (1 : Int) else if (C : Int) = 0 then 2 else 3) = z at e1
    have hz : AV.int .i64 (if (C : Int) = (R.length : Int) then (1 : Int) else if (C : Int) = 0 then 2 else 3) = .int .i64 z := by rw [hz0]
    clear hz0 hsc
    generalize R.foldl (spanS g) ⟨99999, 0⟩ = W at e3 ⊢
    obtain ⟨wa, wb⟩ := W
    have h4q : ∀ l, hget (τ2 ++ l) R4 = some (AObj.cells [.int .i64 sl, .list .no 2 (ts.map Rng.av), .list .no 6 (rs.map Rd.av)]) := fun l => by rw [hget_app (hget_lt h42)]; exact h42
    as_aux_lemma =>
    simp -implicitDefEqProofs (maxSteps := 2000000) (disch := omega) only [go_sem, reduceCtorEq, Nat.reduceAdd, Nat.reduceSub, Nat.reduceMul, Nat.reduceLT, Nat.reduceLeDiff, Nat.reduceEqDiff, Nat.reduceBEq, Int.reduceToNat, Int.reduceLT, Int.reduceLE, Int.reduceEq, Int.reduceNeg, Int.reduceAdd, Int.reduceSub, Int.reduceMul, ↓reduceIte, Int.reduceBEq, Int.reduceBNe, h4q, e1, hz, e3, length_pw, hget_pw0, hget_pw, hset_pw0, hset_pw, Rng.av]
    exact (ih2 _ ⟨hp2.app, h4q _⟩).castS rfl (by simp [upd, ins, subF, lookA])
end Go.Proofs
