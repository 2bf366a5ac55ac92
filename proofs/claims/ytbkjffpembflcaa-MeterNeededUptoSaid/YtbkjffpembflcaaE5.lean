/- Texts of a proof: lemmas. -/
import Derived.Test.YtbkjffpembflcaaEA
import Derived.Test.YtbkjffpembflcaaMV
set_option linter.unusedSimpArgs false
set_option linter.unusedVariables false
set_option maxRecDepth 100000
namespace Go.Proofs
open Go Go.Mu

set_option maxHeartbeats 40000000 in
theorem meterNeeded_c (nums : List Int) (hl : nums.length ≤ 4294967296) (σ : List AObj) : ACalls Try.prog 5 [.list .no 1 (nums.map (.int .i64))] σ (fun v _ => v = .bool true) := by
  refine ACalls.of_ev (E := Try.E 216 Try.ord5 fs27) (Try.envOK 216 Try.ord5 fs27 fs27_ok) Try.kp5 Try.func5 rfl (by kernel_rfl) (by simp [Try.E]) (Callable.of Try.func5 (by kernel_rfl) (by kernel_rfl)) (by kernel_rfl) ?_
  simp -implicitDefEqProofs (maxSteps := 2000000) (disch := omega) only [go_sem, reduceCtorEq, Nat.reduceAdd, Nat.reduceSub, Nat.reduceMul, Nat.reduceLT, Nat.reduceLeDiff, Nat.reduceEqDiff, Nat.reduceBEq, Int.reduceToNat, Int.reduceLT, Int.reduceLE, Int.reduceEq, Int.reduceNeg, Int.reduceAdd, Int.reduceSub, Int.reduceMul, ↓reduceIte, Int.reduceBEq, Int.reduceBNe]
  refine newPot_c nums .no hl _ _ fun s0 junk0 => ?_
  have hp : PotAt (σ ++ (.cells [.int .u64 s0] :: junk0)) σ.length := ⟨s0, by rw [hget_at0]; rfl⟩
  generalize σ ++ (.cells [.int .u64 s0] :: junk0) = σ1 at hp ⊢
  generalize σ.length = r at hp ⊢
  simp -implicitDefEqProofs (maxSteps := 2000000) (disch := omega) only [go_sem, reduceCtorEq, Nat.reduceAdd, Nat.reduceSub, Nat.reduceMul, Nat.reduceLT, Nat.reduceLeDiff, Nat.reduceEqDiff, Nat.reduceBEq, Int.reduceToNat, Int.reduceLT, Int.reduceLE, Int.reduceEq, Int.reduceNeg, Int.reduceAdd, Int.reduceSub, Int.reduceMul, ↓reduceIte, Int.reduceBEq, Int.reduceBNe]
  refine earOf_c r 3 2 1 (by omega) (by omega) (by omega) _ hp _ fun s1 e T junk1 hE => ?_
  replace hp : PotAt (pw σ1 r s1 ++ junk1) r := (hp.pw s1).app
  generalize pw σ1 r s1 ++ junk1 = σ2 at hp ⊢
  clear junk0 junk1
  have hr := hp.lt
  obtain ⟨sl, ts, rs⟩ := e
  have hck := hE.ck
  have he := okE_of_ck hck
  have hts3 := he.len
  have hrs3 := hE.rn
  simp only at hts3 hrs3
  simp only [Ear.av]
  simp -implicitDefEqProofs (maxSteps := 2000000) (disch := omega) only [go_sem, reduceCtorEq, Nat.reduceAdd, Nat.reduceSub, Nat.reduceMul, Nat.reduceLT, Nat.reduceLeDiff, Nat.reduceEqDiff, Nat.reduceBEq, Int.reduceToNat, Int.reduceLT, Int.reduceLE, Int.reduceEq, Int.reduceNeg, Int.reduceAdd, Int.reduceSub, Int.reduceMul, ↓reduceIte, Int.reduceBEq, Int.reduceBNe, length_pw, hget_pw0, hget_pw, hset_pw0, hset_pw]
  have hlo := hE.lo
  have hlen := hE.len
  have hbd := hE.bd
  simp only at hlen
  have hT3 : T.length ≤ 3 := by omega
  have hpp : ∀ (s : Int) (j : List AObj), PotAt (pw σ2 r s ++ j) r := fun s j => (hp.pw s).app
  have hw1 : IntKind.i64.wrap ((T.length : Int) - 1) = (T.length : Int) - 1 := wrap64 (by omega) (by omega)
  rw [hw1]
  clear hw1
  refine upto_c r ((T.length : Int) - 1) (by omega) _ hp.app _ fun s3 x hx0 hx1 => ?_
  rw [pw_app hr]
  replace hx1 : x ≤ (T.length : Int) - 1 := by omega
  have hx3 : x < (T.length : Int) := by omega
  have hTi : idx (T.map (AV.int .i64)) x = some (.int .i64 (tg T x)) := idx_tg hx0 hx3
  have htb : 50 ≤ tg T x ∧ tg T x ≤ 50030 := by
    obtain ⟨n, rfl⟩ := Int.eq_ofNat_of_zero_le hx0
    rw [tgE (by omega)]; exact hbd _ (List.getElem_mem _)
  clear hbd hx1
  simp -implicitDefEqProofs (maxSteps := 2000000) (disch := omega) only [go_sem, reduceCtorEq, Nat.reduceAdd, Nat.reduceSub, Nat.reduceMul, Nat.reduceLT, Nat.reduceLeDiff, Nat.reduceEqDiff, Nat.reduceBEq, Int.reduceToNat, Int.reduceLT, Int.reduceLE, Int.reduceEq, Int.reduceNeg, Int.reduceAdd, Int.reduceSub, Int.reduceMul, ↓reduceIte, Int.reduceBEq, Int.reduceBNe, length_pw, hget_pw0, hget_pw, hset_pw0, hset_pw, hTi]
  refine near_c r (tg T x) 1 100000 1 (by omega) (by omega) _ (hpp _ _) _ fun s4 p1 p2 n1 n2 n3 n4 n5 n6 junk3 => ?_
  have hpw : p1 ≤ p2 := by omega
  clear n1 n2 n3 n4 n5 n6
  rw [pw_pwa hr, List.append_assoc]
  simp only [Rng.av]
  simp -implicitDefEqProofs (maxSteps := 2000000) (disch := omega) only [go_sem, reduceCtorEq, Nat.reduceAdd, Nat.reduceSub, Nat.reduceMul, Nat.reduceLT, Nat.reduceLeDiff, Nat.reduceEqDiff, Nat.reduceBEq, Int.reduceToNat, Int.reduceLT, Int.reduceLE, Int.reduceEq, Int.reduceNeg, Int.reduceAdd, Int.reduceSub, Int.reduceMul, ↓reduceIte, Int.reduceBEq, Int.reduceBNe, length_pw, hget_pw0, hget_pw, hset_pw0, hset_pw]
  refine gatesOf_c r _ (hpp _ _) _ fun s5 gs hgs hgl => ?_
  rw [pw_pwa hr]
  obtain ⟨⟨n0, a0⟩, v, sm, hN⟩ := needP (e := ⟨sl, ts, rs⟩) (x := x) (w := ⟨p1, p2⟩) hck hE.known.2 ⟨hx0, by simp only; omega⟩ hpw hgs hgl
  have hnd := hN.needs
  have hwi := hN.within
  have hcs : (n0 = 0 ∧ a0 = 0 ∧ v ≠ 3) ∨ (v = 3 ∧ a0 = 0 ∧ 1 ≤ n0 ∧ n0 ≤ 2 ∧ decide (n0 = 1) = sm) ∨ (v = 3 ∧ sm = false ∧ n0 = 0 ∧ a0 = 11) := by
    have := hN.cases
    simp only [Prod.mk.injEq] at this
    rcases this with ⟨⟨h1, h2⟩, h3⟩ | ⟨h, ⟨⟨h1, h2⟩, h3⟩ | ⟨h1, ⟨h2, h3⟩ | ⟨h2, h3⟩⟩⟩
    · exact .inl ⟨h1, h2, h3⟩
    · exact .inr (.inl ⟨h, h2, by omega, by omega, by rw [h3, h1]; rfl⟩)
    · exact .inr (.inl ⟨h, h3, by omega, by omega, by rw [h1, h2]; rfl⟩)
    · exact .inr (.inr ⟨h, h1, h2, h3⟩)
  have hmo := hN.more
  have hso := hN.some
  clear hN
  simp only at hso
  obtain ⟨g1, g2, g3⟩ := ckGates_ok hgs
  have hos : ∀ q ∈ byGatesL ts.length gs, okO q (truthsR ⟨sl, ts, rs⟩) := fun q hq => okO_truths hck (byGatesL_ck (m := ts.length) hts3 g3 q hq)
  have hLl := byGatesL_len (m := ts.length) (gs := gs) hts3 (by omega)
  have hok := truthsR_ok he
  have hsl := he.sl
  simp only at hok hsl
  have hinT : inT x (truthsR ⟨sl, ts, rs⟩) := fun t ht => by rw [(hok t ht).1]; omega
  have hgp : 0 < gs.length := List.length_pos_iff.2 g1
  have hlast : 1 ≤ tg gs ((gs.length : Int) - 1) ∧ tg gs ((gs.length : Int) - 1) ≤ 20 := by
    have e : (gs.length : Int) - 1 = ((gs.length - 1 : Nat) : Int) := by omega
    rw [e, tgE (by omega)]; exact g3 _ (List.getElem_mem _)
  refine (?f : ?G → _) ?g
  case f =>
    intro hG
    rcases hcs with ⟨c1, c2, c3⟩ | ⟨c1, c2, c3, c4, c5⟩ | ⟨c1, c2, c3, c4⟩
    all_goals
      simp -implicitDefEqProofs (maxSteps := 2000000) (disch := omega) only [go_sem, reduceCtorEq, Nat.reduceAdd, Nat.reduceSub, Nat.reduceMul, Nat.reduceLT, Nat.reduceLeDiff, Nat.reduceEqDiff, Nat.reduceBEq, Int.reduceToNat, Int.reduceLT, Int.reduceLE, Int.reduceEq, Int.reduceNeg, Int.reduceAdd, Int.reduceSub, Int.reduceMul, ↓reduceIte, Int.reduceBEq, Int.reduceBNe, length_pw, hget_pw0, hget_pw, hset_pw0, hset_pw, hnd, hwi, hck, tss]
      exact hG
  rw [← hlen]
  clear hE hck he hok hnd hwi hp hpp hT3 htb hTi
  have h7 : hget (pw σ2 r s5 ++ AObj.cells [.int .i64 sl, .list .no 2 (ts.map Rng.av), .list .no 6 (rs.map Rd.av)] :: (junk3 ++ [AObj.cells [.int .i64 p1, .int .i64 p2]])) (σ2.length + (junk3.length + 1)) = some (.cells [.int .i64 p1, .int .i64 p2]) := by
    rw [hget_pw]; simp [hget]
  have h4 : hget (pw σ2 r s5 ++ AObj.cells [.int .i64 sl, .list .no 2 (ts.map Rng.av), .list .no 6 (rs.map Rd.av)] :: (junk3 ++ [AObj.cells [.int .i64 p1, .int .i64 p2]])) σ2.length = some (.cells [.int .i64 sl, .list .no 2 (ts.map Rng.av), .list .no 6 (rs.map Rd.av)]) := by
    rw [hget_pw0]; rfl
  generalize pw σ2 r s5 ++ AObj.cells [.int .i64 sl, .list .no 2 (ts.map Rng.av), .list .no 6 (rs.map Rd.av)] :: (junk3 ++ [AObj.cells [.int .i64 p1, .int .i64 p2]]) = τ at h4 h7 ⊢
  generalize σ2.length + (junk3.length + 1) = R7 at h7 ⊢
  generalize σ2.length = R4 at h4 ⊢
  generalize byGatesL ts.length gs = L at hos hLl hso ⊢
  generalize truthsR ⟨sl, ts, rs⟩ = TR at hos hinT hso ⊢
  obtain ⟨f, hf⟩ : ∃ f : Rd → Bool, f = fun q => (outsR q sl TR).all fun l => qin x ⟨p1, p2⟩ l := ⟨_, rfl⟩
  rw [← hf] at hso
  refine ARun.forG (Try.envOK 216 Try.ord5 fs27 fs27_ok) L.length (fun _ => True) (fun i => [(14, .bool ((L.take i).any f)), (16, .int .i64 i)]) (fun _ _ => τ) [] (by kernel_rfl) (by kernel_rfl) rfl (by simp [upd, ins, subF, lookA]) trivial ?_ ?_
  · intro K Q' hK i j hi _ ih
    have hri : idx (L.map Rd.av) (i : Int) = some L[i].av := idx_map hi
    have ho := hos _ (List.getElem_mem hi)
    have hfi : f L[i] = (outsR L[i] sl TR).all fun l => qin x ⟨p1, p2⟩ l := by rw [hf]
    rw [any_take_succ hi, hfi] at ih
    have hol := outsR_len hsl ho
    have hoe : ∀ l ∈ outsR L[i] sl TR, inT x l ∧ l.length ≤ 100000 := fun l hl => by
      obtain ⟨a1, a2, a3⟩ := outs_elem hl
      exact ⟨fun t ht => hinT t (a3 t ht), by have := ho.2.1; omega⟩
    clear hos hmo hso hf hfi hgs g1 g2 g3 hgp hlast
    generalize (L.take i).any f = A0 at ih ⊢
    generalize L[i] = ri at hri ho hol hoe ih
    obtain ⟨k0, k1, k2, k3, ⟨k4, k5⟩⟩ := ri
    simp only [Rd.av] at hri
    simp -implicitDefEqProofs (maxSteps := 2000000) (disch := omega) only [go_sem, reduceCtorEq, Nat.reduceAdd, Nat.reduceSub, Nat.reduceMul, Nat.reduceLT, Nat.reduceLeDiff, Nat.reduceEqDiff, Nat.reduceBEq, Int.reduceToNat, Int.reduceLT, Int.reduceLE, Int.reduceEq, Int.reduceNeg, Int.reduceAdd, Int.reduceSub, Int.reduceMul, ↓reduceIte, Int.reduceBEq, Int.reduceBNe, hri, ho, hsl, tsss, h4, h7]
    generalize outsR ⟨k0, k1, k2, k3, ⟨k4, k5⟩⟩ sl TR = O at hol hoe ih ⊢
    refine ARun.forG (Try.envOK 216 Try.ord5 fs27 fs27_ok) O.length (fun _ => True) (fun k => [(18, .bool ((O.take k).all fun l => qin x ⟨p1, p2⟩ l)), (19, .int .i64 k)]) (fun _ _ => τ) [] (by kernel_rfl) (by simp only [todoOK_cons, hK, Bool.and_true]; kernel_rfl) rfl (by simp [upd, ins, subF, lookA]) trivial ?_ ?_
    · clear hK
      intro K Q' hK k j2 hk _ ih2
      have hrk := idx_tsss hk
      obtain ⟨a1, a2⟩ := hoe _ (List.getElem_mem hk)
      rw [all_take_succ hk] at ih2
      clear hoe ih hri ho
      generalize ((O.take k).all fun l => qin x ⟨p1, p2⟩ l) = A at ih2 ⊢
      generalize O[k] = Ok at hrk a1 a2 ih2
      simp only [tss] at hrk
      simp -implicitDefEqProofs (maxSteps := 2000000) (disch := omega) only [go_sem, reduceCtorEq, Nat.reduceAdd, Nat.reduceSub, Nat.reduceMul, Nat.reduceLT, Nat.reduceLeDiff, Nat.reduceEqDiff, Nat.reduceBEq, Int.reduceToNat, Int.reduceLT, Int.reduceLE, Int.reduceEq, Int.reduceNeg, Int.reduceAdd, Int.reduceSub, Int.reduceMul, ↓reduceIte, Int.reduceBEq, Int.reduceBNe, hrk, h7]
      refine ARun.forG (Try.envOK 216 Try.ord5 fs27 fs27_ok) Ok.length (fun _ => True) (fun m => [(20, .int .i64 ((Ok.take m).filter (qis x ⟨p1, p2⟩)).length), (21, .int .i64 m)]) (fun _ _ => τ) [] (by kernel_rfl) (by simp only [todoOK_cons, hK, Bool.and_true]; kernel_rfl) rfl (by simp [upd, ins, subF, lookA]) trivial ?_ ?_
      · clear hK
        intro K Q' hK m j3 hm _ ih3
        have hok' := idx_iss hm
        simp only [isv] at hok'
        have hxl := a1 _ (List.getElem_mem hm)
        rw [filter_take_succ hm] at ih3
        generalize Ok[m] = t at hok' hxl ih3
        have hti : idx (t.map (AV.int .i64)) x = some (.int .i64 (tg t x)) := idx_tg hx0 hxl
        have hcb : ((Ok.take m).filter (qis x ⟨p1, p2⟩)).length ≤ 100000 := by have := List.length_filter_le (qis x ⟨p1, p2⟩) (Ok.take m); rw [List.length_take] at this; omega
        generalize ((Ok.take m).filter (qis x ⟨p1, p2⟩)).length = C at hcb ih3 ⊢
        cases hq : qis x ⟨p1, p2⟩ t
        · have hd : decide (p1 ≤ tg t x ∧ tg t x ≤ p2) = false := hq
          rw [hq, if_neg (by simp)] at ih3
          simp -implicitDefEqProofs (maxSteps := 2000000) (disch := omega) only [go_sem, reduceCtorEq, Nat.reduceAdd, Nat.reduceSub, Nat.reduceMul, Nat.reduceLT, Nat.reduceLeDiff, Nat.reduceEqDiff, Nat.reduceBEq, Int.reduceToNat, Int.reduceLT, Int.reduceLE, Int.reduceEq, Int.reduceNeg, Int.reduceAdd, Int.reduceSub, Int.reduceMul, ↓reduceIte, Int.reduceBEq, Int.reduceBNe, hrk, h7, hok', hti, hd]
          exact (ih3 trivial j3).castS rfl (by simp [upd, ins, subF, lookA])
        · have hd : decide (p1 ≤ tg t x ∧ tg t x ≤ p2) = true := hq
          rw [hq, if_pos rfl] at ih3
          simp -implicitDefEqProofs (maxSteps := 2000000) (disch := omega) only [go_sem, reduceCtorEq, Nat.reduceAdd, Nat.reduceSub, Nat.reduceMul, Nat.reduceLT, Nat.reduceLeDiff, Nat.reduceEqDiff, Nat.reduceBEq, Int.reduceToNat, Int.reduceLT, Int.reduceLE, Int.reduceEq, Int.reduceNeg, Int.reduceAdd, Int.reduceSub, Int.reduceMul, ↓reduceIte, Int.reduceBEq, Int.reduceBNe, hrk, h7, hok', hti, hd]
          exact (ih3 trivial j3).castS rfl (by simp [upd, ins, subF, lookA])
      · intro j3 _
        rw [List.take_length]
        have hqv : qin x ⟨p1, p2⟩ Ok = decide (verd (Ok.filter (qis x ⟨p1, p2⟩)).length Ok.length ≠ 3) := rfl
        have hcb := List.length_filter_le (qis x ⟨p1, p2⟩) Ok
        generalize (Ok.filter (qis x ⟨p1, p2⟩)).length = C at hcb hqv ⊢
        generalize qin x ⟨p1, p2⟩ Ok = B at hqv ih2
        unfold verd at hqv
        by_cases hc0 : C = 0
        · have hB : B = true := by rw [hqv]; simp only [hc0]; split <;> simp
          clear hqv
          subst hB
          rw [Bool.and_true] at ih2
          cases A <;>
          · simp -implicitDefEqProofs (maxSteps := 2000000) (disch := omega) only [go_sem, reduceCtorEq, Nat.reduceAdd, Nat.reduceSub, Nat.reduceMul, Nat.reduceLT, Nat.reduceLeDiff, Nat.reduceEqDiff, Nat.reduceBEq, Int.reduceToNat, Int.reduceLT, Int.reduceLE, Int.reduceEq, Int.reduceNeg, Int.reduceAdd, Int.reduceSub, Int.reduceMul, ↓reduceIte, Int.reduceBEq, Int.reduceBNe, hrk, h7, hc0]
            exact (ih2 trivial j3).castS rfl (by simp [upd, ins, subF, lookA])
        · by_cases hcl : C = Ok.length
          · have hB : B = true := by rw [hqv, if_pos hcl]; rfl
            clear hqv
            subst hB
            rw [Bool.and_true] at ih2
            cases A <;>
            · simp -implicitDefEqProofs (maxSteps := 2000000) (disch := omega) only [go_sem, reduceCtorEq, Nat.reduceAdd, Nat.reduceSub, Nat.reduceMul, Nat.reduceLT, Nat.reduceLeDiff, Nat.reduceEqDiff, Nat.reduceBEq, Int.reduceToNat, Int.reduceLT, Int.reduceLE, Int.reduceEq, Int.reduceNeg, Int.reduceAdd, Int.reduceSub, Int.reduceMul, ↓reduceIte, Int.reduceBEq, Int.reduceBNe, hrk, h7, hcl]
              exact (ih2 trivial j3).castS rfl (by simp [upd, ins, subF, lookA])
          · have hB : B = false := by rw [hqv, if_neg hcl, if_neg hc0]; rfl
            clear hqv
            subst hB
            rw [Bool.and_false] at ih2
            cases A <;>
            · simp -implicitDefEqProofs (maxSteps := 2000000) (disch := omega) only [go_sem, reduceCtorEq, Nat.reduceAdd, Nat.reduceSub, Nat.reduceMul, Nat.reduceLT, Nat.reduceLeDiff, Nat.reduceEqDiff, Nat.reduceBEq, Int.reduceToNat, Int.reduceLT, Int.reduceLE, Int.reduceEq, Int.reduceNeg, Int.reduceAdd, Int.reduceSub, Int.reduceMul, ↓reduceIte, Int.reduceBEq, Int.reduceBNe, hrk, h7, hcl, hc0]
              exact (ih2 trivial j3).castS rfl (by simp [upd, ins, subF, lookA])
    · intro j2 _
      rw [List.take_length]
      generalize (O.all fun l => qin x ⟨p1, p2⟩ l) = B at ih ⊢
      cases A0 <;> cases B <;>
      · simp -implicitDefEqProofs (maxSteps := 2000000) (disch := omega) only [go_sem, reduceCtorEq, Nat.reduceAdd, Nat.reduceSub, Nat.reduceMul, Nat.reduceLT, Nat.reduceLeDiff, Nat.reduceEqDiff, Nat.reduceBEq, Int.reduceToNat, Int.reduceLT, Int.reduceLE, Int.reduceEq, Int.reduceNeg, Int.reduceAdd, Int.reduceSub, Int.reduceMul, ↓reduceIte, Int.reduceBEq, Int.reduceBNe]
        exact (ih trivial j).castS rfl (by simp [upd, ins, subF, lookA])
  · intro j _
    rw [List.take_length, hso]
    clear hos hLl hinT hso hf
    obtain ⟨last, hlg⟩ : ∃ y, tg gs ((gs.length : Int) - 1) = y := ⟨_, rfl⟩
    rw [hlg] at hlast hmo
    have hidx : idx (gs.map (AV.int .i64)) ((gs.length : Int) - 1) = some (.int .i64 last) := by rw [idx_tg (by omega) (by omega), hlg]
    clear hlg
    have hgl3 : gs.length ≤ 4294967295 := by omega
    have h4q : ∀ l, hget (τ ++ l) R4 = some (.cells [.int .i64 sl, .list .no 2 (ts.map Rng.av), .list .no 6 (rs.map Rd.av)]) := fun l => by rw [hget_app (hget_lt h4)]; exact h4
    have h7q : ∀ l, hget (τ ++ l) R7 = some (.cells [.int .i64 p1, .int .i64 p2]) := fun l => by rw [hget_app (hget_lt h7)]; exact h7
    have hdl : decL 1 decI (.list (.own τ.length) 1 (gs.map (AV.int .i64) ++ [.int .i64 (last + 1)])) = some (gs ++ [last + 1]) := by
      have := decL_ints (t := .own τ.length) (l := gs ++ [last + 1])
      rw [List.map_append] at this
      exact this
    clear hgs g1 g2 g3
    have hm2 : last ≠ 20 → ∃ n' a', needsL ⟨sl, ts, rs⟩ x ⟨p1, p2⟩ (gs ++ [last + 1]) = (n', a') ∧ (a' = 0 ∨ (a' = 11 ∧ a0 = 11)) ∧ (a0 = 0 → a' = 0 ∧ n' ≤ n0) := fun h => hmo (last + 1) (by omega)
    clear hmo
    rcases hcs with ⟨c1, c2, c3⟩ | ⟨c1, c2, c3, c4, c5⟩ | ⟨c1, c2, c3, c4⟩
    · by_cases h20 : last = 20
      · clear hm2
        simp -implicitDefEqProofs (maxSteps := 2000000) (disch := omega) only [go_sem, reduceCtorEq, Nat.reduceAdd, Nat.reduceSub, Nat.reduceMul, Nat.reduceLT, Nat.reduceLeDiff, Nat.reduceEqDiff, Nat.reduceBEq, Int.reduceToNat, Int.reduceLT, Int.reduceLE, Int.reduceEq, Int.reduceNeg, Int.reduceAdd, Int.reduceSub, Int.reduceMul, ↓reduceIte, Int.reduceBEq, Int.reduceBNe, h4, h7, hidx]
      · obtain ⟨n', a', hn', ha1, ha2⟩ := hm2 h20
        obtain ⟨rfl, ha3⟩ := ha2 c2
        clear ha1 ha2 hm2
        simp -implicitDefEqProofs (maxSteps := 2000000) (disch := omega) only [go_sem, reduceCtorEq, Nat.reduceAdd, Nat.reduceSub, Nat.reduceMul, Nat.reduceLT, Nat.reduceLeDiff, Nat.reduceEqDiff, Nat.reduceBEq, Int.reduceToNat, Int.reduceLT, Int.reduceLE, Int.reduceEq, Int.reduceNeg, Int.reduceAdd, Int.reduceSub, Int.reduceMul, ↓reduceIte, Int.reduceBEq, Int.reduceBNe, h4, h7, hidx]
        refine ints_c gs .full (by omega) _ _ ?_
        simp -implicitDefEqProofs (maxSteps := 2000000) (disch := omega) only [go_sem, reduceCtorEq, Nat.reduceAdd, Nat.reduceSub, Nat.reduceMul, Nat.reduceLT, Nat.reduceLeDiff, Nat.reduceEqDiff, Nat.reduceBEq, Int.reduceToNat, Int.reduceLT, Int.reduceLE, Int.reduceEq, Int.reduceNeg, Int.reduceAdd, Int.reduceSub, Int.reduceMul, ↓reduceIte, Int.reduceBEq, Int.reduceBNe, h4q, h7q, hdl, hn', hgl3]
    · by_cases h20 : last = 20
      · clear hm2
        cases sm <;>
        · simp -implicitDefEqProofs (maxSteps := 2000000) (disch := omega) only [go_sem, reduceCtorEq, Nat.reduceAdd, Nat.reduceSub, Nat.reduceMul, Nat.reduceLT, Nat.reduceLeDiff, Nat.reduceEqDiff, Nat.reduceBEq, Int.reduceToNat, Int.reduceLT, Int.reduceLE, Int.reduceEq, Int.reduceNeg, Int.reduceAdd, Int.reduceSub, Int.reduceMul, ↓reduceIte, Int.reduceBEq, Int.reduceBNe, h4, h7, hidx, c5]
      · obtain ⟨n', a', hn', ha1, ha2⟩ := hm2 h20
        obtain ⟨rfl, ha3⟩ := ha2 c2
        clear ha1 ha2 hm2
        cases sm <;>
        · simp -implicitDefEqProofs (maxSteps := 2000000) (disch := omega) only [go_sem, reduceCtorEq, Nat.reduceAdd, Nat.reduceSub, Nat.reduceMul, Nat.reduceLT, Nat.reduceLeDiff, Nat.reduceEqDiff, Nat.reduceBEq, Int.reduceToNat, Int.reduceLT, Int.reduceLE, Int.reduceEq, Int.reduceNeg, Int.reduceAdd, Int.reduceSub, Int.reduceMul, ↓reduceIte, Int.reduceBEq, Int.reduceBNe, h4, h7, hidx, c5]
          refine ints_c gs .full (by omega) _ _ ?_
          simp -implicitDefEqProofs (maxSteps := 2000000) (disch := omega) only [go_sem, reduceCtorEq, Nat.reduceAdd, Nat.reduceSub, Nat.reduceMul, Nat.reduceLT, Nat.reduceLeDiff, Nat.reduceEqDiff, Nat.reduceBEq, Int.reduceToNat, Int.reduceLT, Int.reduceLE, Int.reduceEq, Int.reduceNeg, Int.reduceAdd, Int.reduceSub, Int.reduceMul, ↓reduceIte, Int.reduceBEq, Int.reduceBNe, h4q, h7q, hdl, hn', hgl3]
    · subst c2
      by_cases h20 : last = 20
      · clear hm2
        simp -implicitDefEqProofs (maxSteps := 2000000) (disch := omega) only [go_sem, reduceCtorEq, Nat.reduceAdd, Nat.reduceSub, Nat.reduceMul, Nat.reduceLT, Nat.reduceLeDiff, Nat.reduceEqDiff, Nat.reduceBEq, Int.reduceToNat, Int.reduceLT, Int.reduceLE, Int.reduceEq, Int.reduceNeg, Int.reduceAdd, Int.reduceSub, Int.reduceMul, ↓reduceIte, Int.reduceBEq, Int.reduceBNe, h4, h7, hidx]
      · obtain ⟨n', a', hn', ha1, ha2⟩ := hm2 h20
        clear ha2 hm2
        simp -implicitDefEqProofs (maxSteps := 2000000) (disch := omega) only [go_sem, reduceCtorEq, Nat.reduceAdd, Nat.reduceSub, Nat.reduceMul, Nat.reduceLT, Nat.reduceLeDiff, Nat.reduceEqDiff, Nat.reduceBEq, Int.reduceToNat, Int.reduceLT, Int.reduceLE, Int.reduceEq, Int.reduceNeg, Int.reduceAdd, Int.reduceSub, Int.reduceMul, ↓reduceIte, Int.reduceBEq, Int.reduceBNe, h4, h7, hidx]
        refine ints_c gs .full (by omega) _ _ ?_
        rcases ha1 with ha1 | ⟨ha1, _⟩ <;>
        · simp -implicitDefEqProofs (maxSteps := 2000000) (disch := omega) only [go_sem, reduceCtorEq, Nat.reduceAdd, Nat.reduceSub, Nat.reduceMul, Nat.reduceLT, Nat.reduceLeDiff, Nat.reduceEqDiff, Nat.reduceBEq, Int.reduceToNat, Int.reduceLT, Int.reduceLE, Int.reduceEq, Int.reduceNeg, Int.reduceAdd, Int.reduceSub, Int.reduceMul, ↓reduceIte, Int.reduceBEq, Int.reduceBNe, h4q, h7q, hdl, hn', hgl3]
end Go.Proofs
