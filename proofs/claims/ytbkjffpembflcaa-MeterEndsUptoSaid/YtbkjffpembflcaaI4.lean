/- Texts of a proof: lemmas. -/
import Derived.Test.YtbkjffpembflcaaIA
import Derived.Test.YtbkjffpembflcaaAJ
import Derived.Test.YtbkjffpembflcaaBC
import Derived.Test.YtbkjffpembflcaaMV
import Derived.Test.YtbkjffpembflcaaP1
set_option linter.unusedSimpArgs false
set_option linter.unusedVariables false
set_option maxRecDepth 100000
namespace Go.Proofs
open Go Go.Mu

def fs60 (f : FuncId) (xs : List AV) : Option AV := if f = 28 then sameInts_s xs else if f = 31 then within_m_s xs else if f = 46 then beats_m_s xs else if f = 65 then values_s xs else if f = 35 then inR_s xs else if f = 63 then lvd_s xs else fs18 f xs
theorem fs60_ok : ∀ f xs v, fs60 f xs = some v → PureV Try.prog f xs v := by
  intro f xs v h
  unfold fs60 at h
  split at h
  · rename_i e; subst e; exact sameInts_ok _ _ h
  split at h
  · rename_i e; subst e; exact within_m_ok _ _ h
  split at h
  · rename_i e; subst e; exact beats_m_ok _ _ h
  split at h
  · rename_i e; subst e; exact values_ok _ _ h
  split at h
  · rename_i e; subst e; exact inR_ok _ _ h
  split at h
  · rename_i e; subst e; exact lvd_ok _ _ h
  exact fs18_ok _ _ _ h
attribute [go_sem] fs60 sameInts_s within_m_s beats_m_s values_s inR_s lvd_s
set_option maxHeartbeats 16000000 in
theorem meterEnds_c (nums : List Int) (hl : nums.length ≤ 4294967296) (σ : List AObj) : ACalls Try.prog 13 [.list .no 1 (nums.map (.int .i64))] σ (fun v _ => v = .bool true) := by
  refine ACalls.of_ev (E := Try.E 203 Try.ord13 fs60) (Try.envOK 203 Try.ord13 fs60 fs60_ok) Try.kp13 Try.func13 rfl (by kernel_rfl) (by simp [Try.E]) (Callable.of Try.func13 (by kernel_rfl) (by kernel_rfl)) (by kernel_rfl) ?_
  simp -implicitDefEqProofs (maxSteps := 2000000) (disch := omega) only [go_sem, reduceCtorEq, Nat.reduceAdd, Nat.reduceSub, Nat.reduceMul, Nat.reduceLT, Nat.reduceLeDiff, Nat.reduceEqDiff, Nat.reduceBEq, Int.reduceToNat, Int.reduceLT, Int.reduceLE, Int.reduceEq, Int.reduceNeg, Int.reduceAdd, Int.reduceSub, Int.reduceMul, ↓reduceIte, Int.reduceBEq, Int.reduceBNe]
  refine newPot_c nums .no hl _ _ fun s0 junk0 => ?_
  have hp : PotAt (σ ++ (.cells [.int .u64 s0] :: junk0)) σ.length := ⟨s0, by rw [hget_at0]; rfl⟩
  generalize σ ++ (.cells [.int .u64 s0] :: junk0) = σ1 at hp ⊢
  generalize σ.length = r at hp ⊢
  simp -implicitDefEqProofs (maxSteps := 2000000) (disch := omega) only [go_sem, reduceCtorEq, Nat.reduceAdd, Nat.reduceSub, Nat.reduceMul, Nat.reduceLT, Nat.reduceLeDiff, Nat.reduceEqDiff, Nat.reduceBEq, Int.reduceToNat, Int.reduceLT, Int.reduceLE, Int.reduceEq, Int.reduceNeg, Int.reduceAdd, Int.reduceSub, Int.reduceMul, ↓reduceIte, Int.reduceBEq, Int.reduceBNe]
  refine of_c r [0, 2, 6] .full (by simp) _ hp _ fun s1 w hw => ?_
  replace hp := hp.pw s1
  generalize pw σ1 r s1 = σ2 at hp ⊢
  have hw' : 0 ≤ w ∧ w ≤ 10 := by simp at hw; omega
  simp -implicitDefEqProofs (maxSteps := 2000000) (disch := omega) only [go_sem, reduceCtorEq, Nat.reduceAdd, Nat.reduceSub, Nat.reduceMul, Nat.reduceLT, Nat.reduceLeDiff, Nat.reduceEqDiff, Nat.reduceBEq, Int.reduceToNat, Int.reduceLT, Int.reduceLE, Int.reduceEq, Int.reduceNeg, Int.reduceAdd, Int.reduceSub, Int.reduceMul, ↓reduceIte, Int.reduceBEq, Int.reduceBNe]
  refine earOf_c r 3 4 w (by omega) (by omega) hw' _ hp _ fun s2 e T junk1 hE => ?_
  replace hp : PotAt (pw σ2 r s2 ++ junk1) r := (hp.pw s2).app
  generalize pw σ2 r s2 ++ junk1 = σ3 at hp ⊢
  clear junk0 junk1
  have hr := hp.lt
  obtain ⟨s00, hs00⟩ := pw_self hp
  obtain ⟨A, V, H, B, hN⟩ := hE.ends hw'.2
  have hck := hE.ck
  have hts3 := (okE_of_ck hck).len
  have hrs3 := hE.rn
  obtain ⟨sl, ts, rs⟩ := e
  obtain ⟨hto, hAl, hva, hvl, hen, hbn, hwi, hhi, hbe, hal, hne⟩ := hN
  simp only at hts3 hrs3 hAl hva hvl hen hbn hwi hhi hbe
  clear hE hw hw' hck
  simp only [Ear.av]
  simp -implicitDefEqProofs (maxSteps := 2000000) (disch := omega) only [go_sem, reduceCtorEq, Nat.reduceAdd, Nat.reduceSub, Nat.reduceMul, Nat.reduceLT, Nat.reduceLeDiff, Nat.reduceEqDiff, Nat.reduceBEq, Int.reduceToNat, Int.reduceLT, Int.reduceLE, Int.reduceEq, Int.reduceNeg, Int.reduceAdd, Int.reduceSub, Int.reduceMul, ↓reduceIte, Int.reduceBEq, Int.reduceBNe, hto, length_pw, hget_pw0, hget_pw, hset_pw0, hset_pw]
  clear hto
  refine ARun.countG (Try.envOK 203 Try.ord13 fs60 fs60_ok) A.length (fun _ τ => ∃ s j, τ = pw σ3 r s ++ ((AObj.cells [.int .i64 sl, .list .no 2 (ts.map Rng.av), .list .no 6 (rs.map Rd.av)]) :: j)) (fun i => [(8, .int .i64 i)]) (by kernel_rfl) (by kernel_rfl) (by simp [upd, ins, subF, lookA]) ⟨s00, [], by rw [hs00]⟩ ?_ ?_
  · rintro K Q' hK i τ hi ⟨s3, j, rfl⟩ ih
    have hit : i < ts.length := by omega
    have hvi := hva i hit
    obtain ⟨hl0, hl1⟩ := hvl i hit
    have hbi := hbn i hit
    have hAi : idx (A.map Rng.av) (i : Int) = some (.agg [.int .i64 (tg (V i) 0), .int .i64 (tg (V i) ((V i).length - 1 : Int))]) := by
      have h1 := hen i hit
      unfold idx
      simp only [Int.toNat_natCast, List.getElem?_map, h1]
      rfl
    have hk0 : idx ((V i).map (AV.int .i64)) 0 = some (.int .i64 (tg (V i) 0)) := idx_tg (by omega) (by omega)
    have hkn : idx ((V i).map (AV.int .i64)) ((V i).length - 1 : Int) = some (.int .i64 (tg (V i) ((V i).length - 1 : Int))) := idx_tg (by omega) (by omega)
    have hwq := hwi i hit
    have hhij := fun j hj => hhi i j hit hj
    have hhji := fun j hj => hhi j i hj hit
    have hbij := fun j hj => hbe i j hit hj
    have halj := hal i
    have hnej := hne i
    clear hwi hhi hbe hal hne hbn hen
    have hVj : ∀ j, j < ts.length → valuesL ⟨sl, ts, rs⟩ j = (V j, 0) := hva
    have hVjl : ∀ j, j < ts.length → (V j).length ≤ 9261 := fun j hj => (hvl j hj).2
    clear hva hvl
    generalize hU : V i = U at hvi hl0 hl1 hbi hAi hk0 hkn hwq hnej
    generalize tg U 0 = lo at hAi hk0 hbi
    generalize tg U (U.length - 1 : Int) = hi' at hAi hkn hbi
    simp -implicitDefEqProofs (maxSteps := 2000000) (disch := omega) only [go_sem, reduceCtorEq, Nat.reduceAdd, Nat.reduceSub, Nat.reduceMul, Nat.reduceLT, Nat.reduceLeDiff, Nat.reduceEqDiff, Nat.reduceBEq, Int.reduceToNat, Int.reduceLT, Int.reduceLE, Int.reduceEq, Int.reduceNeg, Int.reduceAdd, Int.reduceSub, Int.reduceMul, ↓reduceIte, Int.reduceBEq, Int.reduceBNe, hvi, hAi, hk0, hkn, length_pw, hget_pw0, hget_pw, hset_pw0, hset_pw, Rng.av]
    refine inner_c r ⟨lo, hi'⟩ (by simp only; omega) (by simp only; omega) (by simp only; omega) _ (hp.pw _).app _ fun s4 x junk2 hx1 hx2 => ?_
    rw [pw_pwa hr, List.append_assoc]
    simp only at hx1 hx2
    simp -implicitDefEqProofs (maxSteps := 2000000) (disch := omega) only [go_sem, reduceCtorEq, Nat.reduceAdd, Nat.reduceSub, Nat.reduceMul, Nat.reduceLT, Nat.reduceLeDiff, Nat.reduceEqDiff, Nat.reduceBEq, Int.reduceToNat, Int.reduceLT, Int.reduceLE, Int.reduceEq, Int.reduceNeg, Int.reduceAdd, Int.reduceSub, Int.reduceMul, ↓reduceIte, Int.reduceBEq, Int.reduceBNe, length_pw, hget_pw0, hget_pw, hset_pw0, hset_pw]
    refine near_c r x 1 100000 3 (by omega) (by omega) _ (hp.pw _).app _ fun s5 p1 p2 n1 n2 n3 n4 n5 n6 junk3 => ?_
    have hpq : p1 ≤ p2 := by omega
    clear n1 n2 n3 n4 n5 n6
    rw [pw_pwa hr, List.append_assoc]
    simp -implicitDefEqProofs (maxSteps := 2000000) (disch := omega) only [go_sem, reduceCtorEq, Nat.reduceAdd, Nat.reduceSub, Nat.reduceMul, Nat.reduceLT, Nat.reduceLeDiff, Nat.reduceEqDiff, Nat.reduceBEq, Int.reduceToNat, Int.reduceLT, Int.reduceLE, Int.reduceEq, Int.reduceNeg, Int.reduceAdd, Int.reduceSub, Int.reduceMul, ↓reduceIte, Int.reduceBEq, Int.reduceBNe, length_pw, hget_pw0, hget_pw, hset_pw0, hset_pw, Rng.av]
    have hT : ∃ j', pw σ3 r s5 ++ (AObj.cells [.int .i64 sl, .list .no 2 (ts.map Rng.av), .list .no 6 (rs.map Rd.av)]) :: (j ++ (junk2 ++ (junk3 ++ [.cells [.int .i64 p1, .int .i64 p2]]))) = pw σ3 r s5 ++ ((AObj.cells [.int .i64 sl, .list .no 2 (ts.map Rng.av), .list .no 6 (rs.map Rd.av)]) :: j') := ⟨_, rfl⟩
    have h4 : ∀ l, hget (pw σ3 r s5 ++ (AObj.cells [.int .i64 sl, .list .no 2 (ts.map Rng.av), .list .no 6 (rs.map Rd.av)]) :: (j ++ (junk2 ++ (junk3 ++ [.cells [.int .i64 p1, .int .i64 p2]]))) ++ l) σ3.length = some (AObj.cells [.int .i64 sl, .list .no 2 (ts.map Rng.av), .list .no 6 (rs.map Rd.av)]) := fun l => by rw [List.append_assoc, hget_pw0]; rfl
    have h12 : ∀ l, hget (pw σ3 r s5 ++ (AObj.cells [.int .i64 sl, .list .no 2 (ts.map Rng.av), .list .no 6 (rs.map Rd.av)]) :: (j ++ (junk2 ++ (junk3 ++ [.cells [.int .i64 p1, .int .i64 p2]]))) ++ l) (σ3.length + (j.length + (junk2.length + junk3.length) + 1)) = some (.cells [.int .i64 p1, .int .i64 p2]) := fun l => by rw [List.append_assoc, hget_pw]; simp
    generalize pw σ3 r s5 ++ (AObj.cells [.int .i64 sl, .list .no 2 (ts.map Rng.av), .list .no 6 (rs.map Rd.av)]) :: (j ++ (junk2 ++ (junk3 ++ [.cells [.int .i64 p1, .int .i64 p2]]))) = τ at hT h4 h12 ⊢
    generalize σ3.length + (j.length + (junk2.length + junk3.length) + 1) = R12 at h12 ⊢
    have h4z := h4 []
    have h12z := h12 []
    rw [List.append_nil] at h4z h12z
    have hpi := hwq ⟨p1, p2⟩ hpq
    simp only at hpi
    obtain ⟨f, hf⟩ : ∃ f : Int → Bool, f = fun x => decide (p1 ≤ x ∧ x ≤ p2) := ⟨_, rfl⟩
    rw [← hf] at hpi
    clear hwq
    refine ARun.forG (Try.envOK 203 Try.ord13 fs60 fs60_ok) U.length (fun _ => True) (fun k => [(11, .int .i64 ((U.take k).filter f).length), (13, .int .i64 k)]) (fun _ _ => τ) [] (by kernel_rfl) (by simp only [todoOK_cons, hK, Bool.and_true]; kernel_rfl) rfl (by simp [upd, ins, subF, lookA]) trivial ?_ ?_
    · clear hK
      intro K Q' hK k j2 hk _ ih2
      have hUk : idx (U.map (AV.int .i64)) (k : Int) = some (.int .i64 U[k]) := by rw [idx_nat hk]
      rw [filter_take_succ hk] at ih2
      have hcb : ((U.take k).filter f).length ≤ 9261 := by have := List.length_filter_le f (U.take k); rw [List.length_take] at this; omega
      generalize ((U.take k).filter f).length = C at hcb ih2 ⊢
      have hfk : decide (p1 ≤ U[k] ∧ U[k] ≤ p2) = f U[k] := by rw [hf]
      generalize U[k] = y at hUk ih2 hfk
      cases hb : f y
      · rw [hb, if_neg (by simp)] at ih2
        rw [hb] at hfk
        clear hpi hf hhij hhji hbij halj hnej hVj hVjl
        simp -implicitDefEqProofs (maxSteps := 2000000) (disch := omega) only [go_sem, reduceCtorEq, Nat.reduceAdd, Nat.reduceSub, Nat.reduceMul, Nat.reduceLT, Nat.reduceLeDiff, Nat.reduceEqDiff, Nat.reduceBEq, Int.reduceToNat, Int.reduceLT, Int.reduceLE, Int.reduceEq, Int.reduceNeg, Int.reduceAdd, Int.reduceSub, Int.reduceMul, ↓reduceIte, Int.reduceBEq, Int.reduceBNe, h12z, hUk, hfk]
        exact (ih2 trivial j2).castS rfl (by simp [upd, ins, subF, lookA])
      · rw [hb, if_pos rfl] at ih2
        rw [hb] at hfk
        clear hpi hf hhij hhji hbij halj hnej hVj hVjl
        simp -implicitDefEqProofs (maxSteps := 2000000) (disch := omega) only [go_sem, reduceCtorEq, Nat.reduceAdd, Nat.reduceSub, Nat.reduceMul, Nat.reduceLT, Nat.reduceLeDiff, Nat.reduceEqDiff, Nat.reduceBEq, Int.reduceToNat, Int.reduceLT, Int.reduceLE, Int.reduceEq, Int.reduceNeg, Int.reduceAdd, Int.reduceSub, Int.reduceMul, ↓reduceIte, Int.reduceBEq, Int.reduceBNe, h12z, hUk, hfk]
        exact (ih2 trivial j2).castS rfl (by simp [upd, ins, subF, lookA])
    · intro j2 _
      rw [List.take_length]
      have hcb := List.length_filter_le f U
      rw [verd_int] at hpi
      clear hf
      generalize (U.filter f).length = C at hcb hpi ⊢
      generalize hz : (if (C : Int) = (U.length : Int) then (1 : Int) else if (C : Int) = 0 then 2 else 3) = z at hpi
      simp -implicitDefEqProofs (maxSteps := 2000000) (disch := omega) only [go_sem, reduceCtorEq, Nat.reduceAdd, Nat.reduceSub, Nat.reduceMul, Nat.reduceLT, Nat.reduceLeDiff, Nat.reduceEqDiff, Nat.reduceBEq, Int.reduceToNat, Int.reduceLT, Int.reduceLE, Int.reduceEq, Int.reduceNeg, Int.reduceAdd, Int.reduceSub, Int.reduceMul, ↓reduceIte, Int.reduceBEq, Int.reduceBNe, h4z, h12z, hpi, hz, Rng.av]
      clear hpi hz hcb h12 h12z hAi hk0 hkn
      refine ARun.forG (Try.envOK 203 Try.ord13 fs60 fs60_ok) A.length (fun _ => True) (fun k => [(16, .int .i64 k)]) (fun _ j3 => τ ++ j3) [] (by kernel_rfl) (by simp only [todoOK_cons, hK, Bool.and_true]; kernel_rfl) (by simp) (by simp [upd, ins, subF, lookA]) trivial ?_ ?_
      · clear hK ih hbi hpq hx1 hx2 hT hp hr hs00 hl hl0
        intro K Q' hK k j3 hk _ ih3
        have hkt : k < ts.length := by omega
        have h4j := h4 j3
        by_cases hik : i = k
        · subst hik
          simp -implicitDefEqProofs (maxSteps := 2000000) (disch := omega) only [go_sem, reduceCtorEq, Nat.reduceAdd, Nat.reduceSub, Nat.reduceMul, Nat.reduceLT, Nat.reduceLeDiff, Nat.reduceEqDiff, Nat.reduceBEq, Int.reduceToNat, Int.reduceLT, Int.reduceLE, Int.reduceEq, Int.reduceNeg, Int.reduceAdd, Int.reduceSub, Int.reduceMul, ↓reduceIte, Int.reduceBEq, Int.reduceBNe]
          exact (ih3 trivial j3).castS rfl (by simp [upd, ins, subF, lookA])
        · have e1 := hhij k hkt hik
          have e2 := hhji k hkt (fun h => hik h.symm)
          have e3 := hbij k hkt hik
          have e4 := hVj k hkt
          have e5 := hVjl k hkt
          have e6 := halj k
          have e7 := hnej k
          have hik' : ((i : Int) = (k : Int)) = False := eq_false (by omega)
          clear hhij hhji hbij hVj hVjl halj hnej
          generalize hv : H i k = v at e1 e6 e7
          generalize hw : H k i = w at e2 e6 e7
          generalize hq : B i k = q at e3 e7
          generalize hO : V k = O at e4 e5 e7
          clear hv hw hq hO
          obtain ⟨q1, q2⟩ := q
          by_cases hv1 : v = 1
          · have hw2 := e6 hv1
            subst hv1 hw2
            clear e6 e7
            as_aux_lemma =>
              simp -implicitDefEqProofs (maxSteps := 2000000) (disch := omega) only [go_sem, reduceCtorEq, Nat.reduceAdd, Nat.reduceSub, Nat.reduceMul, Nat.reduceLT, Nat.reduceLeDiff, Nat.reduceEqDiff, Nat.reduceBEq, Int.reduceToNat, Int.reduceLT, Int.reduceLE, Int.reduceEq, Int.reduceNeg, Int.reduceAdd, Int.reduceSub, Int.reduceMul, ↓reduceIte, Int.reduceBEq, Int.reduceBNe, h4, h4j, e1, e2, e3, e4, hik', Rng.av]
              exact (ih3 trivial _).castS (by simp; rfl) (by simp [upd, ins, subF, lookA])
          · by_cases hv2 : v = 2
            · subst hv2
              clear e6
              by_cases hw2 : w = 2
              · subst hw2
                obtain ⟨hq, hU2⟩ := e7 rfl rfl
                simp only [Rng.mk.injEq] at hq
                obtain ⟨rfl, rfl⟩ := hq
                subst hU2
                as_aux_lemma =>
                  simp -implicitDefEqProofs (maxSteps := 2000000) (disch := omega) only [go_sem, reduceCtorEq, Nat.reduceAdd, Nat.reduceSub, Nat.reduceMul, Nat.reduceLT, Nat.reduceLeDiff, Nat.reduceEqDiff, Nat.reduceBEq, Int.reduceToNat, Int.reduceLT, Int.reduceLE, Int.reduceEq, Int.reduceNeg, Int.reduceAdd, Int.reduceSub, Int.reduceMul, ↓reduceIte, Int.reduceBEq, Int.reduceBNe, h4, h4j, e1, e2, e3, e4, hik', Rng.av]
                  exact (ih3 trivial _).castS (by simp; rfl) (by simp [upd, ins, subF, lookA])
              · clear e7
                as_aux_lemma =>
                  simp -implicitDefEqProofs (maxSteps := 2000000) (disch := omega) only [go_sem, reduceCtorEq, Nat.reduceAdd, Nat.reduceSub, Nat.reduceMul, Nat.reduceLT, Nat.reduceLeDiff, Nat.reduceEqDiff, Nat.reduceBEq, Int.reduceToNat, Int.reduceLT, Int.reduceLE, Int.reduceEq, Int.reduceNeg, Int.reduceAdd, Int.reduceSub, Int.reduceMul, ↓reduceIte, Int.reduceBEq, Int.reduceBNe, h4, h4j, e1, e2, e3, e4, hik', Rng.av]
                  exact (ih3 trivial _).castS (by simp; rfl) (by simp [upd, ins, subF, lookA])
            · clear e6 e7
              as_aux_lemma =>
                simp -implicitDefEqProofs (maxSteps := 2000000) (disch := omega) only [go_sem, reduceCtorEq, Nat.reduceAdd, Nat.reduceSub, Nat.reduceMul, Nat.reduceLT, Nat.reduceLeDiff, Nat.reduceEqDiff, Nat.reduceBEq, Int.reduceToNat, Int.reduceLT, Int.reduceLE, Int.reduceEq, Int.reduceNeg, Int.reduceAdd, Int.reduceSub, Int.reduceMul, ↓reduceIte, Int.reduceBEq, Int.reduceBNe, h4, h4j, e1, e2, e3, e4, hik', Rng.av]
                exact (ih3 trivial _).castS (by simp; rfl) (by simp [upd, ins, subF, lookA])
      · intro j3 _
        simp -implicitDefEqProofs (maxSteps := 2000000) (disch := omega) only [go_sem, reduceCtorEq, Nat.reduceAdd, Nat.reduceSub, Nat.reduceMul, Nat.reduceLT, Nat.reduceLeDiff, Nat.reduceEqDiff, Nat.reduceBEq, Int.reduceToNat, Int.reduceLT, Int.reduceLE, Int.reduceEq, Int.reduceNeg, Int.reduceAdd, Int.reduceSub, Int.reduceMul, ↓reduceIte, Int.reduceBEq, Int.reduceBNe]
        obtain ⟨j', hT⟩ := hT
        exact (ih _ ⟨s5, j' ++ j3, by rw [hT]; simp⟩).castS rfl (by simp [upd, ins, subF, lookA])
  · rintro τ ⟨s3, j, rfl⟩
    clear hva hvl hen hbn hwi hhi hbe hal hne hs00
    simp -implicitDefEqProofs (maxSteps := 2000000) (disch := omega) only [go_sem, reduceCtorEq, Nat.reduceAdd, Nat.reduceSub, Nat.reduceMul, Nat.reduceLT, Nat.reduceLeDiff, Nat.reduceEqDiff, Nat.reduceBEq, Int.reduceToNat, Int.reduceLT, Int.reduceLE, Int.reduceEq, Int.reduceNeg, Int.reduceAdd, Int.reduceSub, Int.reduceMul, ↓reduceIte, Int.reduceBEq, Int.reduceBNe]
end Go.Proofs
