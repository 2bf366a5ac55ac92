/- Texts of a proof: lemmas. -/
import Derived.Test.YtbkjffpembflcaaGreatK3
set_option linter.unusedSimpArgs false
set_option linter.unusedVariables false
set_option maxRecDepth 100000
namespace Go.Proofs
open Go Go.Mu

set_option maxHeartbeats 400000000 in
theorem allI_round {sl : Int} {ts : List Rng} {rs : List Rd} {R : List (List Int)} {A : List Rng} {r R4 : Nat} (hn4 : R4 ≠ r) (hts3 : ts.length ≤ 3) (hrs3 : rs.length ≤ 100) (hrl : R.length ≤ 9261) (hRne : R ≠ []) (hAl : A.length = ts.length)
    (htn : ∀ x ∈ ts, 1 ≤ x.lo ∧ x.lo ≤ x.hi ∧ x.hi ≤ 100000 ∧ x.hi - x.lo ≤ 20)
    (hok : ∀ t ∈ R, t.length = ts.length ∧ ∀ i (h : i < ts.length), ts[i].lo ≤ tg t i ∧ tg t i ≤ ts[i].hi)
    (hAi : ∀ i : Nat, i < ts.length → idx (A.map Rng.av) (i : Int) = some (spanL (fun t => tg t i) R).av)
    (hva : ∀ i : Nat, i < ts.length → valuesL ⟨sl, ts, rs⟩ i = (valsL (fun t => tg t i) R, 0))
    (hwi : ∀ i : Nat, i < ts.length → ∀ q : Rng, q.lo ≤ q.hi → withinL ⟨sl, ts, rs⟩ i q = (verd (R.filter (qis i q)).length R.length, 0))
    (hhi2 : ∀ i j : Nat, i < ts.length → j < ts.length → i ≠ j → higherL ⟨sl, ts, rs⟩ i j = (verd (R.filter fun t => decide (tg t j < tg t i)).length R.length, 0))
    (hbe : ∀ i j : Nat, i < ts.length → j < ts.length → i ≠ j → ∀ s, 1 ≤ s → s ≤ 20 → beatsL ⟨sl, ts, rs⟩ i j s = (spanL (fun t => dist (tg t i) (tg t j) * s / 100) R, 0))
    (K : List Item) (Q' : Post) (hK : todoOK (Tryz.E 322 Tryz.ord4 fs73) K = true) (i : Nat) (τ : List AObj) (hi : i < A.length) (hJ : PotAt τ r ∧ hget τ R4 = some (AObj.cells [.int .i64 sl, .list .no 2 (ts.map Rng.av), .list .no 6 (rs.map Rd.av)]))
    (ih : ∀ τ', PotAt τ' r ∧ hget τ' R4 = some (AObj.cells [.int .i64 sl, .list .no 2 (ts.map Rng.av), .list .no 6 (rs.map Rd.av)]) → ARun (Tryz.E 322 Tryz.ord4 fs73) none (.inLoop (loopAt Tryz.f4 15) :: K) ⟨Tryz.kp4, [], upd [(2, AV.bool false), (3, .ptr r 0), (4, .ptr R4 0), (5, .list .no 1 (R.map isv)), (8, .list .no 2 (A.map Rng.av)), (14, .int .i64 0)] [(14, .int .i64 ((i + 1 : Nat) : Int))]⟩ τ' Q') :
    ev (Tryz.E 322 Tryz.ord4 fs73) none 100000 (.code (loopAt Tryz.f4 15) :: .inLoop (loopAt Tryz.f4 15) :: K) ⟨Tryz.kp4, [], upd [(2, AV.bool false), (3, .ptr r 0), (4, .ptr R4 0), (5, .list .no 1 (R.map isv)), (8, .list .no 2 (A.map Rng.av)), (14, .int .i64 0)] [(14, .int .i64 i)]⟩ τ Q' := by
  obtain ⟨hp, h4z⟩ := hJ
  obtain ⟨c, hc⟩ : ∃ c, (loopAt Tryz.f4 15) = c := ⟨_, rfl⟩
  rw [hc] at ih ⊢
  conv at hc => lhs; whnf
  subst hc
  simp only [upd, ins, Nat.reduceEqDiff, ↓reduceIte] at ih ⊢
  have hit : i < ts.length := by omega
  have hr := hp.lt
  have htsi : idx (ts.map Rng.av) (i : Int) = some ts[i].av := idx_map hit
  have htx := htn _ (List.getElem_mem hit)
  have hbR : ∀ t ∈ R, t.length = ts.length ∧ ts[i].lo ≤ tg t i ∧ tg t i ≤ ts[i].hi := fun t ht => ⟨(hok t ht).1, (hok t ht).2 i hit⟩
  generalize ts[i] = w at htsi htx hbR
  obtain ⟨lo, hi'⟩ := w
  simp only at htx hbR
  simp only [Rng.av] at htsi
  obtain ⟨f, hf⟩ : ∃ f : List Int → Int, f = fun t => tg t i := ⟨_, rfl⟩
  have hvi := hva i hit
  have hAx := hAi i hit
  rw [← hf] at hvi hAx
  have hfa : ∀ t, tg t i = f t := fun t => by rw [hf]
  have hbf : ∀ t ∈ R, lo ≤ f t ∧ f t ≤ hi' := fun t ht => by rw [hf]; exact (hbR t ht).2
  have hlR : ∀ t ∈ R, t.length = ts.length := fun t ht => (hbR t ht).1
  have hVb : ∀ y ∈ valsL f R, lo ≤ y ∧ y ≤ hi' := fun y hy => by
    obtain ⟨t, ht, rfl⟩ := valsL_mem.1 hy; exact hbf t ht
  have hVl := valsL_len f R
  have hV0 : 0 < (valsL f R).length := List.length_pos_iff.2 (valsL_ne hRne)
  have hMe := fun t => metL_end (f := f) (R := R) (t := t)
  have hsp : spanL f R = ⟨tg (valsL f R) 0, tg (valsL f R) ((valsL f R).length - 1 : Int)⟩ := by
    rw [span_vals hRne hV0]
    have e1 : ((valsL f R).length - 1 : Int) = (((valsL f R).length - 1 : Nat) : Int) := by omega
    have e0 : (0 : Int) = ((0 : Nat) : Int) := rfl
    rw [e1, tgE (by omega)]
    conv => rhs; rw [e0]
    rw [tgE hV0]
  rw [hsp] at hAx
  simp only [Rng.av] at hAx
  have hk0 : idx ((valsL f R).map (AV.int .i64)) 0 = some (.int .i64 (tg (valsL f R) 0)) := idx_tg (by omega) (by omega)
  have hkn : idx ((valsL f R).map (AV.int .i64)) ((valsL f R).length - 1 : Int) = some (.int .i64 (tg (valsL f R) ((valsL f R).length - 1 : Int))) := idx_tg (by omega) (by omega)
  have hbn0 : belowL (valsL f R) lo = [] := below_none fun y hy => (hVb y hy).1
  have hbne : belowL (valsL f R) (hi' + 1) = valsL f R := below_all fun y hy => by have := hVb y hy; omega
  clear hVb hsp
  generalize valsL f R = V at hvi hAx hVl hV0 hMe hk0 hkn hbn0 hbne
  generalize tg V 0 = v0 at hAx hk0
  generalize tg V (V.length - 1 : Int) = vn at hAx hkn
  have hwq := hwi i hit
  have hhij := fun j hj => hhi2 i j hit hj
  have hbij := fun j hj => hbe i j hit hj
  have htj : ∀ j : Nat, j < ts.length → ∀ t ∈ R, 1 ≤ tg t j ∧ tg t j ≤ 100000 := fun j hj t ht => by
    have h1 : ts[j].lo ≤ tg t j ∧ tg t j ≤ ts[j].hi := (hok t ht).2 j hj
    have h2 := htn _ (List.getElem_mem hj)
    omega
  clear hva hAi hwi hhi2 hbe hok htn
  have h4q : ∀ l, hget (τ ++ l) R4 = some (AObj.cells [.int .i64 sl, .list .no 2 (ts.map Rng.av), .list .no 6 (rs.map Rd.av)]) := fun l => by rw [hget_app (hget_lt h4z)]; exact h4z
  have h4p : ∀ s l, hget (pw τ r s ++ l) R4 = some (AObj.cells [.int .i64 sl, .list .no 2 (ts.map Rng.av), .list .no 6 (rs.map Rd.av)]) := fun s l => hgetK_pwa h4z hn4
  have hpp : ∀ s l, PotAt (pw τ r s ++ l) r := fun s l => (hp.pw s).app
  simp -implicitDefEqProofs (maxSteps := 2000000) (disch := omega) only [go_sem, reduceCtorEq, Nat.reduceAdd, Nat.reduceSub, Nat.reduceMul, Nat.reduceLT, Nat.reduceLeDiff, Nat.reduceEqDiff, Nat.reduceBEq, Int.reduceToNat, Int.reduceLT, Int.reduceLE, Int.reduceEq, Int.reduceNeg, Int.reduceAdd, Int.reduceSub, Int.reduceMul, ↓reduceIte, Int.reduceBEq, Int.reduceBNe, htsi, h4z, h4q, Rng.av]
  refine inner_c r ⟨lo, hi'⟩ (by simp only; omega) (by simp only; omega) (by simp only; omega) _ hp _ fun s4 x junk2 hx1 hx2 => ?_
  simp only at hx1 hx2
  simp -implicitDefEqProofs (maxSteps := 2000000) (disch := omega) only [go_sem, reduceCtorEq, Nat.reduceAdd, Nat.reduceSub, Nat.reduceMul, Nat.reduceLT, Nat.reduceLeDiff, Nat.reduceEqDiff, Nat.reduceBEq, Int.reduceToNat, Int.reduceLT, Int.reduceLE, Int.reduceEq, Int.reduceNeg, Int.reduceAdd, Int.reduceSub, Int.reduceMul, ↓reduceIte, Int.reduceBEq, Int.reduceBNe, length_pw, hget_pw0, hget_pw, hset_pw0, hset_pw, h4p]
  refine near_c r x 1 100000 2 (by omega) (by omega) _ (hpp _ _) _ fun s5 p1 p2 n1 n2 n3 n4 n5 n6 junk3 => ?_
  have hpq : p1 ≤ p2 := by omega
  clear n1 n2 n3 n4 n5 n6 hx1 hx2
  rw [pw_pwa hr, List.append_assoc]
  simp only [Rng.av]
  simp -implicitDefEqProofs (maxSteps := 2000000) (disch := omega) only [go_sem, reduceCtorEq, Nat.reduceAdd, Nat.reduceSub, Nat.reduceMul, Nat.reduceLT, Nat.reduceLeDiff, Nat.reduceEqDiff, Nat.reduceBEq, Int.reduceToNat, Int.reduceLT, Int.reduceLE, Int.reduceEq, Int.reduceNeg, Int.reduceAdd, Int.reduceSub, Int.reduceMul, ↓reduceIte, Int.reduceBEq, Int.reduceBNe, length_pw, hget_pw0, hget_pw, hset_pw0, hset_pw, h4p, htsi]
  have hp1 : PotAt (pw τ r s5 ++ (junk2 ++ (junk3 ++ [.cells [.int .i64 p1, .int .i64 p2]]))) r := hpp _ _
  have h41 : hget (pw τ r s5 ++ (junk2 ++ (junk3 ++ [.cells [.int .i64 p1, .int .i64 p2]]))) R4 = some (AObj.cells [.int .i64 sl, .list .no 2 (ts.map Rng.av), .list .no 6 (rs.map Rd.av)]) := h4p _ _
  have h16 : hget (pw τ r s5 ++ (junk2 ++ (junk3 ++ [.cells [.int .i64 p1, .int .i64 p2]]))) (τ.length + (junk2.length + junk3.length)) = some (.cells [.int .i64 p1, .int .i64 p2]) := by rw [hget_pw]; simp
  generalize pw τ r s5 ++ (junk2 ++ (junk3 ++ [.cells [.int .i64 p1, .int .i64 p2]])) = τ1 at hp1 h41 h16 ⊢
  generalize τ.length + (junk2.length + junk3.length) = R16 at h16 ⊢
  clear h4q h4p hpp hp h4z hr
  have h4q : ∀ l, hget (τ1 ++ l) R4 = some (AObj.cells [.int .i64 sl, .list .no 2 (ts.map Rng.av), .list .no 6 (rs.map Rd.av)]) := fun l => by rw [hget_app (hget_lt h41)]; exact h41
  have h16q : ∀ l, hget (τ1 ++ l) R16 = some (.cells [.int .i64 p1, .int .i64 p2]) := fun l => by rw [hget_app (hget_lt h16)]; exact h16
  clear h41 h16
  refine ARun.ghost 15 1 (sz0 := 0) rfl (by simp [lookA, upd, ins]) ?_
  simp only [ins, upd, ↓reduceIte, List.append_assoc, List.cons_append, List.nil_append, List.length_append, List.length_cons, List.length_nil, Nat.zero_add, Nat.reduceEqDiff, Nat.reduceAdd]
  refine ARun.forG (Tryz.envOK 322 Tryz.ord4 fs73 fs73_ok) (hi' - lo + 1).toNat (fun _ => True) (fun q => [(15, .list (.own τ1.length) 1 ((belowL V (lo + q)).map (.int .i64))), (18, .int .i64 (lo + q))]) (fun q j => τ1 ++ (.tail (belowL V (lo + q)).length 1 :: j)) [] (by kernel_rfl) (by simp only [todoOK_cons, hK, Bool.and_true]; kernel_rfl) (by simp [hbn0]) (by simp [upd, ins, subF, lookA, hbn0]) trivial ?_ ?_
  · clear hK ih
    intro K Q' hK q j hq _ ih
    have e1 : lo + ((q + 1 : Nat) : Int) = lo + q + 1 := by omega
    have hM1 := hMe (lo + q)
    rw [e1, ← hM1] at ih
    obtain ⟨y, hy⟩ : ∃ y, lo + (q : Int) = y := ⟨_, rfl⟩
    have hyb : lo ≤ y ∧ y ≤ hi' := by omega
    rw [hy] at ih ⊢
    clear hM1 hMe e1 hbn0 hbne hk0 hkn hAx hvi hwq hhij hbij htj
    as_aux_lemma =>
    simp -implicitDefEqProofs (maxSteps := 2000000) (disch := omega) only [go_sem, reduceCtorEq, Nat.reduceAdd, Nat.reduceSub, Nat.reduceMul, Nat.reduceLT, Nat.reduceLeDiff, Nat.reduceEqDiff, Nat.reduceBEq, Int.reduceToNat, Int.reduceLT, Int.reduceLE, Int.reduceEq, Int.reduceNeg, Int.reduceAdd, Int.reduceSub, Int.reduceMul, ↓reduceIte, Int.reduceBEq, Int.reduceBNe, h4q, htsi]
    refine ARun.forG (Tryz.envOK 322 Tryz.ord4 fs73 fs73_ok) R.length (fun _ => True) (fun k => [(15, .list (.own τ1.length) 1 ((metL V f R y k).map (.int .i64))), (19, .int .i64 k)]) (fun k j2 => τ1 ++ (.tail (metL V f R y k).length 1 :: j2)) j (by kernel_rfl) (by simp only [todoOK_cons, hK, Bool.and_true]; kernel_rfl) (by rw [metL_zero]) (by rw [metL_zero]; simp [upd, ins, subF, lookA]) trivial ?_ ?_
    · clear hK
      intro K Q' hK k j2 hk _ ih2
      have hri : idx (R.map isv) (k : Int) = some (isv R[k]) := idx_iss hk
      have hra : idx (R[k].map (AV.int .i64)) (i : Int) = some (.int .i64 (f R[k])) := by rw [idx_tg (by omega) (by rw [hlR _ (List.getElem_mem hk)]; omega), hfa]
      have hMl := metL_len (V := V) (f := f) (R := R) (t := y) (k := k)
      rw [metL_succ hk] at ih2
      clear ih hf hfa hlR hbf hbR
      generalize metL V f R y k = M at hMl ih2 ⊢
      generalize f R[k] = u at hra ih2
      generalize R[k] = Rk at hri hra
      simp only [isv] at hri
      by_cases hu : u = y
      · have hpn := place_nonneg (l := M) (x := y)
        have hpd : y ∉ M → placeL M y = -1 := fun h => by unfold placeL; rw [if_neg h]
        by_cases hm : y ∈ M
        · rw [if_neg (fun h => h.2 hm)] at ih2
          have hc1 : M.contains y = true := by simpa using hm
          rw [hc1] at hpn
          have hp0 : 0 ≤ placeL M y := by simpa using hpn
          clear hpn hpd hm hc1
          generalize hpz : placeL M y = z at hp0
          simp -implicitDefEqProofs (maxSteps := 2000000) (disch := omega) only [go_sem, reduceCtorEq, Nat.reduceAdd, Nat.reduceSub, Nat.reduceMul, Nat.reduceLT, Nat.reduceLeDiff, Nat.reduceEqDiff, Nat.reduceBEq, Int.reduceToNat, Int.reduceLT, Int.reduceLE, Int.reduceEq, Int.reduceNeg, Int.reduceAdd, Int.reduceSub, Int.reduceMul, ↓reduceIte, Int.reduceBEq, Int.reduceBNe, hri, hra, hu, hpz]
          exact (ih2 trivial j2).castS rfl (by simp [upd, ins, subF, lookA])
        · rw [if_pos ⟨hu, hm⟩] at ih2
          have hpz := hpd hm
          clear hpn hpd hm
          simp -implicitDefEqProofs (maxSteps := 2000000) (disch := omega) only [go_sem, reduceCtorEq, Nat.reduceAdd, Nat.reduceSub, Nat.reduceMul, Nat.reduceLT, Nat.reduceLeDiff, Nat.reduceEqDiff, Nat.reduceBEq, Int.reduceToNat, Int.reduceLT, Int.reduceLE, Int.reduceEq, Int.reduceNeg, Int.reduceAdd, Int.reduceSub, Int.reduceMul, ↓reduceIte, Int.reduceBEq, Int.reduceBNe, hri, hra, hu, hpz]
          exact (ih2 trivial j2).castS (by simp) (by simp [upd, ins, subF, lookA])
      · rw [if_neg (fun h => hu h.1)] at ih2
        simp -implicitDefEqProofs (maxSteps := 2000000) (disch := omega) only [go_sem, reduceCtorEq, Nat.reduceAdd, Nat.reduceSub, Nat.reduceMul, Nat.reduceLT, Nat.reduceLeDiff, Nat.reduceEqDiff, Nat.reduceBEq, Int.reduceToNat, Int.reduceLT, Int.reduceLE, Int.reduceEq, Int.reduceNeg, Int.reduceAdd, Int.reduceSub, Int.reduceMul, ↓reduceIte, Int.reduceBEq, Int.reduceBNe, hri, hra, hu]
        exact (ih2 trivial j2).castS rfl (by simp [upd, ins, subF, lookA])
    · intro j2 _
      simp -implicitDefEqProofs (maxSteps := 2000000) (disch := omega) only [go_sem, reduceCtorEq, Nat.reduceAdd, Nat.reduceSub, Nat.reduceMul, Nat.reduceLT, Nat.reduceLeDiff, Nat.reduceEqDiff, Nat.reduceBEq, Int.reduceToNat, Int.reduceLT, Int.reduceLE, Int.reduceEq, Int.reduceNeg, Int.reduceAdd, Int.reduceSub, Int.reduceMul, ↓reduceIte, Int.reduceBEq, Int.reduceBNe]
      exact (ih trivial j2).castS rfl (by simp [upd, ins, subF, lookA])
  intro j _
  have e1 : lo + ((hi' - lo + 1).toNat : Int) = hi' + 1 := by omega
  rw [e1, hbne]
  clear hMe hbn0 hbne e1
  simp -implicitDefEqProofs (maxSteps := 2000000) (disch := omega) only [go_sem, reduceCtorEq, Nat.reduceAdd, Nat.reduceSub, Nat.reduceMul, Nat.reduceLT, Nat.reduceLeDiff, Nat.reduceEqDiff, Nat.reduceBEq, Int.reduceToNat, Int.reduceLT, Int.reduceLE, Int.reduceEq, Int.reduceNeg, Int.reduceAdd, Int.reduceSub, Int.reduceMul, ↓reduceIte, Int.reduceBEq, Int.reduceBNe, h4q, htsi]
  refine ARun.forG (Tryz.envOK 322 Tryz.ord4 fs73 fs73_ok) R.length (fun _ => True) (fun k => [(17, .int .i64 ((R.take k).filter (qis i ⟨p1, p2⟩)).length), (20, .int .i64 k)]) (fun _ _ => τ1 ++ (.tail V.length 1 :: j)) [] (by kernel_rfl) (by simp only [todoOK_cons, hK, Bool.and_true]; kernel_rfl) rfl (by simp [upd, ins, subF, lookA]) trivial ?_ ?_
  · clear hK ih hwq hhij hbij htj hvi hAx hk0 hkn
    intro K Q' hK k j2 hk _ ih2
    have hri : idx (R.map isv) (k : Int) = some (isv R[k]) := idx_iss hk
    have hra : idx (R[k].map (AV.int .i64)) (i : Int) = some (.int .i64 (tg R[k] i)) := idx_tg (by omega) (by rw [hlR _ (List.getElem_mem hk)]; omega)
    rw [filter_take_succ hk] at ih2
    have hcb : ((R.take k).filter (qis i ⟨p1, p2⟩)).length ≤ 9261 := by have := List.length_filter_le (qis i ⟨p1, p2⟩) (R.take k); rw [List.length_take] at this; omega
    generalize ((R.take k).filter (qis i ⟨p1, p2⟩)).length = C at hcb ih2 ⊢
    have hqd : decide (p1 ≤ tg R[k] i ∧ tg R[k] i ≤ p2) = qis i ⟨p1, p2⟩ R[k] := rfl
    generalize tg R[k] i = u at hra hqd
    clear hf hfa hlR hbf hbR
    generalize R[k] = Rk at hri hra ih2 hqd
    simp only [isv] at hri
    as_aux_lemma =>
    cases hb : qis i ⟨p1, p2⟩ Rk
    · rw [hb, if_neg (by simp)] at ih2
      rw [hb] at hqd
      simp -implicitDefEqProofs (maxSteps := 2000000) (disch := omega) only [go_sem, reduceCtorEq, Nat.reduceAdd, Nat.reduceSub, Nat.reduceMul, Nat.reduceLT, Nat.reduceLeDiff, Nat.reduceEqDiff, Nat.reduceBEq, Int.reduceToNat, Int.reduceLT, Int.reduceLE, Int.reduceEq, Int.reduceNeg, Int.reduceAdd, Int.reduceSub, Int.reduceMul, ↓reduceIte, Int.reduceBEq, Int.reduceBNe, hri, hra, h16q, hqd]
      exact (ih2 trivial j2).castS rfl (by simp [upd, ins, subF, lookA])
    · rw [hb, if_pos rfl] at ih2
      rw [hb] at hqd
      simp -implicitDefEqProofs (maxSteps := 2000000) (disch := omega) only [go_sem, reduceCtorEq, Nat.reduceAdd, Nat.reduceSub, Nat.reduceMul, Nat.reduceLT, Nat.reduceLeDiff, Nat.reduceEqDiff, Nat.reduceBEq, Int.reduceToNat, Int.reduceLT, Int.reduceLE, Int.reduceEq, Int.reduceNeg, Int.reduceAdd, Int.reduceSub, Int.reduceMul, ↓reduceIte, Int.reduceBEq, Int.reduceBNe, hri, hra, h16q, hqd]
      exact (ih2 trivial j2).castS rfl (by simp [upd, ins, subF, lookA])
  intro j3 _
  rw [List.take_length]
  have hpi := hwq ⟨p1, p2⟩ hpq
  clear hwq
  have hcb := List.length_filter_le (qis i ⟨p1, p2⟩) R
  rw [verd_int] at hpi
  generalize (R.filter (qis i ⟨p1, p2⟩)).length = C at hcb hpi ⊢
  generalize hz0 : (if (C : Int) = (R.length : Int) then (1 : Int) else if (C : Int) = 0 then 2 else 3) = z at hpi
  have hz : AV.int .i64 (if (C : Int) = (R.length : Int) then (1 : Int) else if (C : Int) = 0 then 2 else 3) = .int .i64 z := by rw [hz0]
  clear hz0
  have hVl2 : V.length ≤ 9261 := by omega
  have hp2 : PotAt (τ1 ++ (.tail V.length 1 :: j)) r := hp1.app
  have h42 := h4q (.tail V.length 1 :: j)
  as_aux_lemma =>
  simp -implicitDefEqProofs (maxSteps := 2000000) (disch := omega) only [go_sem, reduceCtorEq, Nat.reduceAdd, Nat.reduceSub, Nat.reduceMul, Nat.reduceLT, Nat.reduceLeDiff, Nat.reduceEqDiff, Nat.reduceBEq, Int.reduceToNat, Int.reduceLT, Int.reduceLE, Int.reduceEq, Int.reduceNeg, Int.reduceAdd, Int.reduceSub, Int.reduceMul, ↓reduceIte, Int.reduceBEq, Int.reduceBNe, h4q, h16q, hpi, hz, hvi, hAx, hk0, hkn, Rng.av]
  clear hpi hz hcb h16q h4q hvi hAx hk0 hkn hVl2 hV0 hVl hpq hbf hf hfa htsi htx hbR
  refine ARun.castS (sl' := [(2, AV.bool false), (3, .ptr r 0), (4, .ptr R4 0), (5, .list .no 1 (R.map isv)), (8, .list .no 2 (A.map Rng.av)), (14, .int .i64 i), (25, .int .i64 0)]) (σ' := τ1 ++ (.tail V.length 1 :: j)) ?_ rfl (by simp [upd, ins, subF, lookA])
  refine ARun.countG (Tryz.envOK 322 Tryz.ord4 fs73 fs73_ok) A.length (fun _ τ => PotAt τ r ∧ hget τ R4 = some (AObj.cells [.int .i64 sl, .list .no 2 (ts.map Rng.av), .list .no 6 (rs.map Rd.av)])) (fun j => [(25, .int .i64 j)]) (by kernel_rfl) (by simp only [todoOK_cons, hK, Bool.and_true]; kernel_rfl) (by simp [upd, ins, subF, lookA]) ⟨hp2, h42⟩ ?_ ?_
  · clear hK ih hp1 hp2 h42
    exact fun K Q' hK j τ' hj hJ ih2 => allJ_round hn4 hts3 hrs3 hrl hRne hAl hit hlR hhij hbij htj K Q' hK j τ' hj hJ ih2
  · rintro τ' ⟨hp', h4z'⟩
    clear hhij hbij htj
    simp only [upd, ins, Nat.reduceEqDiff, ↓reduceIte]
    simp -implicitDefEqProofs (maxSteps := 2000000) (disch := omega) only [go_sem, reduceCtorEq, Nat.reduceAdd, Nat.reduceSub, Nat.reduceMul, Nat.reduceLT, Nat.reduceLeDiff, Nat.reduceEqDiff, Nat.reduceBEq, Int.reduceToNat, Int.reduceLT, Int.reduceLE, Int.reduceEq, Int.reduceNeg, Int.reduceAdd, Int.reduceSub, Int.reduceMul, ↓reduceIte, Int.reduceBEq, Int.reduceBNe]
    exact (ih _ ⟨hp', h4z'⟩).castS rfl (by simp [upd, ins, subF, lookA])
end Go.Proofs
