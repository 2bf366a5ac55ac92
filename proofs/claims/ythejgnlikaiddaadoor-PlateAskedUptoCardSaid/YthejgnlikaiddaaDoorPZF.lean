/- Texts of a proof: lemmas. -/
import Derived.Test.YthejgnlikaiddaaDoorPZE
set_option linter.unusedSimpArgs false
set_option linter.unusedVariables false
set_option maxRecDepth 100000
namespace Go.Proofs
open Go Go.Mu

def left_s : List AV → Option AV
  | _ => none
set_option maxHeartbeats 400000000 in
theorem plateAsked_c (nums : List Int) (hl : nums.length ≤ 4294967296) (σ : List AObj) : ACalls Tryd.prog 6 [.list .no 1 (nums.map (.int .i64))] σ (fun v _ => v = .bool true) := by
  refine ACalls.of_ev (E := Tryd.E 143 (fun _ => ([], [])) fs21) (Tryd.envOK 143 (fun _ => ([], [])) fs21 fs21_ok) Tryd.kp6 Tryd.func6 rfl (by kernel_rfl) (by simp [Tryd.E]) (Callable.of Tryd.func6 (by kernel_rfl) (by kernel_rfl)) (by kernel_rfl) ?_
  simp -implicitDefEqProofs (maxSteps := 2000000) (disch := omega) only [go_sem, reduceCtorEq, Nat.reduceAdd, Nat.reduceSub, Nat.reduceMul, Nat.reduceLT, Nat.reduceLeDiff, Nat.reduceEqDiff, Nat.reduceBEq, Int.reduceToNat, Int.reduceLT, Int.reduceLE, Int.reduceEq, Int.reduceNeg, Int.reduceAdd, Int.reduceSub, Int.reduceMul, ↓reduceIte, Int.reduceBEq, Int.reduceBNe]
  refine newPot_c nums .no hl _ _ fun s0 junk0 => ?_
  have hp : PotAt (σ ++ (.cells [.int .u64 s0] :: junk0)) σ.length := ⟨s0, by rw [hget_at0]; rfl⟩
  generalize σ ++ (.cells [.int .u64 s0] :: junk0) = σ1 at hp ⊢
  generalize σ.length = r at hp ⊢
  simp -implicitDefEqProofs (maxSteps := 2000000) (disch := omega) only [go_sem, reduceCtorEq, Nat.reduceAdd, Nat.reduceSub, Nat.reduceMul, Nat.reduceLT, Nat.reduceLeDiff, Nat.reduceEqDiff, Nat.reduceBEq, Int.reduceToNat, Int.reduceLT, Int.reduceLE, Int.reduceEq, Int.reduceNeg, Int.reduceAdd, Int.reduceSub, Int.reduceMul, ↓reduceIte, Int.reduceBEq, Int.reduceBNe]
  refine catalogueOf_c r 4 4 (by omega) (by omega) _ hp _ fun s1 c junk1 hC _ _ => ?_
  replace hp : PotAt (pw σ1 r s1 ++ junk1) r := (hp.pw s1).app
  generalize pw σ1 r s1 ++ junk1 = σ2 at hp ⊢
  clear junk0 junk1
  have hr := hp.lt
  have hcat := okCat_of hC
  have hcav : c.av = .agg [.int .i64 c.features, .list .no 3 (c.models.map Model.av)] := rfl
  simp -implicitDefEqProofs (maxSteps := 2000000) (disch := omega) only [go_sem, reduceCtorEq, Nat.reduceAdd, Nat.reduceSub, Nat.reduceMul, Nat.reduceLT, Nat.reduceLeDiff, Nat.reduceEqDiff, Nat.reduceBEq, Int.reduceToNat, Int.reduceLT, Int.reduceLE, Int.reduceEq, Int.reduceNeg, Int.reduceAdd, Int.reduceSub, Int.reduceMul, ↓reduceIte, Int.reduceBEq, Int.reduceBNe, length_pw, hget_pw0, hget_pw, hset_pw0, hset_pw, hcav]
  rw [← hcav]
  refine oldOf_c r c hC _ hp.app _ fun s2 o i k n1 junk2 hO => ?_
  rw [pw_app hr]
  obtain ⟨σ3, e3⟩ : ∃ σ3, σ3 = pw σ2 r s2 ++ [.cells [.int .i64 c.features, .list .no 3 (c.models.map Model.av)]] ++ junk2 := ⟨_, rfl⟩
  rw [← e3]
  have hgc0 : hget σ3 σ2.length = some (.cells [.int .i64 c.features, .list .no 3 (c.models.map Model.av)]) := by rw [e3, List.append_assoc, hget_pw0]; rfl
  have hgl : σ2.length < σ3.length := hget_lt hgc0
  clear e3 hr hp
  have hgcl : ∀ l, hget (σ3 ++ l) σ2.length = some (.cells [.int .i64 c.features, .list .no 3 (c.models.map Model.av)]) := fun l => by rw [hget_app hgl]; exact hgc0
  generalize σ2.length = a at hgcl hgc0 hgl ⊢
  have hOo := hO.ok
  have htr := truth_mem hC hO
  clear hO
  obtain ⟨S, P, ch⟩ := o
  have hne : truthsM c ⟨S, P, ch⟩ ≠ [] := List.ne_nil_of_mem htr
  have hv := ck_of_okO hC hOo
  have hko := okOld_of hC hOo
  have hlen := truthsM_len (o := ⟨S, P, ch⟩) hC
  have qf : fitsM c ⟨S, P, ch⟩ = ((truthsM c ⟨S, P, ch⟩).map Made.pair, 0) := by rw [fitsM_val hv, if_neg hne]
  have qn := next_best hC hOo hne
  have hall : ∀ m ∈ truthsM c ⟨S, P, ch⟩, m ∈ allMade c := fun m hm => (mem_truths.1 hm).1
  have hso := hOo.seen.1
  simp only at hso
  have hfe := hC.features
  have hfound : ∀ f : Nat, (f : Int) < c.features → ∀ v : Int, 1 ≤ v → v ≤ 3 → tg S (f : Int) = 0 → foundM c ⟨S, P, ch⟩ f v = if leftN (truthsM c ⟨S, P, ch⟩) f v = 0 then (⟨[], ByteArray.empty, 0⟩, 9) else (⟨S.set f v, P, ch⟩, 0) := fun f hf v h1 h2 h3 => by
    have hz : featE c f = 0 := by unfold featE; rw [if_pos (by omega)]
    unfold foundM
    rw [if_neg (by simp [hv]), if_neg (by simp [hz]), if_neg (by simp [h3]), if_neg (by omega)]
    by_cases h : leftN (truthsM c ⟨S, P, ch⟩) f v = 0
    · rw [if_pos h, if_pos (leftN_any.2 h)]
    · rw [if_neg h, if_neg (fun e => h (leftN_any.1 e))]; rfl
  have hleft := fun (f : Nat) (v : Int) (hf : (f : Int) < c.features) => left_p c (truthsM c ⟨S, P, ch⟩) f v hC hall hlen hf
  have hb := fun n => @bestP_bound (truthsM c ⟨S, P, ch⟩) S n hlen
  clear htr hne hv
  generalize truthsM c ⟨S, P, ch⟩ = T at *
  have hT16 : ∀ f v, leftN T f v ≤ 16 := fun f v => Nat.le_trans leftN_le hlen
  have hisv : isv S = .list .no 1 (S.map (.int .i64)) := rfl
  obtain ⟨x1, x2, x3, hnx, hx⟩ : ∃ x1 x2 x3 : Int, nextM c ⟨S, P, ch⟩ = (x1, x2, x3) ∧ ((bestP T S S.length).1 < 0 ∧ x3 = 11 ∨ 0 ≤ (bestP T S S.length).1 ∧ x3 = 0 ∧ x1 = (bestP T S S.length).1 ∧ x2 = (bestP T S S.length).2) := by
    rw [qn]
    by_cases h : (bestP T S S.length).1 < 0
    · rw [if_pos h]; exact ⟨0, 0, 11, rfl, .inl ⟨h, rfl⟩⟩
    · rw [if_neg h]; exact ⟨_, _, 0, rfl, .inr ⟨by omega, rfl, rfl, rfl⟩⟩
  clear qn
  simp only [Old.av, isv]
  simp -implicitDefEqProofs (maxSteps := 2000000) (disch := omega) only [go_sem, reduceCtorEq, Nat.reduceAdd, Nat.reduceSub, Nat.reduceMul, Nat.reduceLT, Nat.reduceLeDiff, Nat.reduceEqDiff, Nat.reduceBEq, Int.reduceToNat, Int.reduceLT, Int.reduceLE, Int.reduceEq, Int.reduceNeg, Int.reduceAdd, Int.reduceSub, Int.reduceMul, ↓reduceIte, Int.reduceBEq, Int.reduceBNe, hgcl, hgc0, Cat_eta, Old_eta, hcat, hko, qf, hnx]
  refine ARun.forG (Tryd.envOK 143 (fun _ => ([], [])) fs21 fs21_ok) S.length (fun _ => True) (fun f => [(13, .int .i64 (bestP T S f).1), (14, .int .i64 (bestP T S f).2), (15, .int .i64 f)]) (fun _ j => σ3 ++ (.cells [.list .no 1 (S.map (.int .i64)), .str P, .int .i64 ch] :: j)) [] (by kernel_rfl) (by kernel_rfl) rfl (by simp [upd, ins, subF, lookA, bestP, lostP]) trivial ?_ ?_
  · intro K Q' hK f j hf _ ih
    have hSf : idx (S.map (AV.int .i64)) (f : Int) = some (.int .i64 (tg S f)) := by rw [idx_nat hf, tgE hf]
    have hfc : (f : Int) < c.features := by omega
    have hbf := hb f
    by_cases hz : tg S (f : Int) = 0
    · have hst := bestP_step (T := T) hz
      rw [hz] at hSf
      simp -implicitDefEqProofs (maxSteps := 2000000) (disch := omega) only [go_sem, reduceCtorEq, Nat.reduceAdd, Nat.reduceSub, Nat.reduceMul, Nat.reduceLT, Nat.reduceLeDiff, Nat.reduceEqDiff, Nat.reduceBEq, Int.reduceToNat, Int.reduceLT, Int.reduceLE, Int.reduceEq, Int.reduceNeg, Int.reduceAdd, Int.reduceSub, Int.reduceMul, ↓reduceIte, Int.reduceBEq, Int.reduceBNe, hgcl, hSf]
      refine ARun.forG (Tryd.envOK 143 (fun _ => ([], [])) fs21 fs21_ok) 3 (fun _ => True) (fun q => [(16, .int .i64 (wN T f q)), (17, .int .i64 ((q : Int) + 1))]) (fun _ j2 => σ3 ++ (.cells [.list .no 1 (S.map (.int .i64)), .str P, .int .i64 ch] :: (j ++ j2))) [] (by kernel_rfl) (by repeat (first | exact hK | (rw [todoOK_cons, Bool.and_eq_true]; refine ⟨by kernel_rfl, ?_⟩))) (by simp) (by simp [upd, ins, subF, lookA, wN]) trivial ?_ ?_
      · intro K2 Q2 hK2 q j2 hq _ ih2
        have hfd := hfound f hfc ((q : Int) + 1) (by omega) (by omega) hz
        have hlf := hleft f ((q : Int) + 1) hfc
        have hmx : ((wN T f (q + 1) : Nat) : Int) = if (wN T f q : Int) < (leftN T f ((q : Int) + 1) : Int) then (leftN T f ((q : Int) + 1) : Int) else (wN T f q : Int) := by
          simp only [wN]
          rw [show (((q + 1 : Nat) : Int)) = (q : Int) + 1 by omega]
          split <;> omega
        have hn16 := hT16 f ((q : Int) + 1)
        have hwb : wN T f q ≤ 16 := by
          have : ∀ q, wN T f q ≤ 16 := fun q => by induction q with
            | zero => simp [wN]
            | succ q ih => simp only [wN]; have := hT16 f ((q + 1 : Nat) : Int); omega
          exact this q
        rw [hmx] at ih2
        clear hmx hfound hleft hT16
        generalize leftN T f ((q : Int) + 1) = n at hfd hlf ih2 hn16
        generalize wN T f q = w at ih2 hwb ⊢
        simp -implicitDefEqProofs (maxSteps := 2000000) (disch := omega) only [go_sem, reduceCtorEq, Nat.reduceAdd, Nat.reduceSub, Nat.reduceMul, Nat.reduceLT, Nat.reduceLeDiff, Nat.reduceEqDiff, Nat.reduceBEq, Int.reduceToNat, Int.reduceLT, Int.reduceLE, Int.reduceEq, Int.reduceNeg, Int.reduceAdd, Int.reduceSub, Int.reduceMul, ↓reduceIte, Int.reduceBEq, Int.reduceBNe, hgcl]
        refine hlf _ _ ?_
        simp -implicitDefEqProofs (maxSteps := 2000000) (disch := omega) only [go_sem, reduceCtorEq, Nat.reduceAdd, Nat.reduceSub, Nat.reduceMul, Nat.reduceLT, Nat.reduceLeDiff, Nat.reduceEqDiff, Nat.reduceBEq, Int.reduceToNat, Int.reduceLT, Int.reduceLE, Int.reduceEq, Int.reduceNeg, Int.reduceAdd, Int.reduceSub, Int.reduceMul, ↓reduceIte, Int.reduceBEq, Int.reduceBNe, hgcl]
        refine found_c c ⟨S, P, ch⟩ f ((q : Int) + 1) hcat hko (by omega) _ _ fun junk => ?_
        rw [hfd]
        simp only [List.append_assoc, List.cons_append]
        by_cases hn : n = 0
        · subst hn
          rw [if_pos rfl]
          simp only [Old.av, isv, List.map_nil]
          simp -implicitDefEqProofs (maxSteps := 2000000) (disch := omega) only [go_sem, reduceCtorEq, Nat.reduceAdd, Nat.reduceSub, Nat.reduceMul, Nat.reduceLT, Nat.reduceLeDiff, Nat.reduceEqDiff, Nat.reduceBEq, Int.reduceToNat, Int.reduceLT, Int.reduceLE, Int.reduceEq, Int.reduceNeg, Int.reduceAdd, Int.reduceSub, Int.reduceMul, ↓reduceIte, Int.reduceBEq, Int.reduceBNe, hgcl]
          exact (ih2 trivial (j2 ++ (junk ++ [_]))).castS (by simp; rfl) (by simp [upd, ins, subF, lookA]; omega)
        · rw [if_neg hn]
          have hsl : (S.set f ((q : Int) + 1)).length = S.length := List.length_set
          have hsi : idx ((S.set f ((q : Int) + 1)).map (AV.int .i64)) (f : Int) = some (.int .i64 ((q : Int) + 1)) := by rw [idx_nat (by omega), List.getElem_set_self]
          generalize S.set f ((q : Int) + 1) = S2 at hsl hsi
          simp only [Old.av, isv]
          simp -implicitDefEqProofs (maxSteps := 2000000) (disch := omega) only [go_sem, reduceCtorEq, Nat.reduceAdd, Nat.reduceSub, Nat.reduceMul, Nat.reduceLT, Nat.reduceLeDiff, Nat.reduceEqDiff, Nat.reduceBEq, Int.reduceToNat, Int.reduceLT, Int.reduceLE, Int.reduceEq, Int.reduceNeg, Int.reduceAdd, Int.reduceSub, Int.reduceMul, ↓reduceIte, Int.reduceBEq, Int.reduceBNe, hgcl, hsl, hsi]
          exact (ih2 trivial (j2 ++ (junk ++ [_]))).castS (by simp; rfl) (by simp [upd, ins, subF, lookA])
      · intro j2 _
        have hww := worstN_w (T := T) (f := f)
        have hwb : wN T f 3 ≤ 16 := by rw [← hww]; unfold worstN; have := hT16 f 1; have := hT16 f 2; have := hT16 f 3; omega
        rw [hww] at hst
        rw [hst] at ih
        clear hfound hleft hT16 hww hst
        generalize wN T f 3 = w at ih hwb ⊢
        generalize bestP T S f = b at ih hbf ⊢
        obtain ⟨b1, b2⟩ := b
        simp only at ih hbf ⊢
        by_cases h1 : b1 < 0
        · rw [if_pos (.inl h1)] at ih
          simp -implicitDefEqProofs (maxSteps := 2000000) (disch := omega) only [go_sem, reduceCtorEq, Nat.reduceAdd, Nat.reduceSub, Nat.reduceMul, Nat.reduceLT, Nat.reduceLeDiff, Nat.reduceEqDiff, Nat.reduceBEq, Int.reduceToNat, Int.reduceLT, Int.reduceLE, Int.reduceEq, Int.reduceNeg, Int.reduceAdd, Int.reduceSub, Int.reduceMul, ↓reduceIte, Int.reduceBEq, Int.reduceBNe, hgcl]
          exact (ih trivial (j ++ j2)).castS (by simp) (by simp [upd, ins, subF, lookA])
        · by_cases h2 : (w : Int) < b2
          · rw [if_pos (.inr h2)] at ih
            simp -implicitDefEqProofs (maxSteps := 2000000) (disch := omega) only [go_sem, reduceCtorEq, Nat.reduceAdd, Nat.reduceSub, Nat.reduceMul, Nat.reduceLT, Nat.reduceLeDiff, Nat.reduceEqDiff, Nat.reduceBEq, Int.reduceToNat, Int.reduceLT, Int.reduceLE, Int.reduceEq, Int.reduceNeg, Int.reduceAdd, Int.reduceSub, Int.reduceMul, ↓reduceIte, Int.reduceBEq, Int.reduceBNe, hgcl]
            exact (ih trivial (j ++ j2)).castS (by simp) (by simp [upd, ins, subF, lookA])
          · rw [if_neg (by omega)] at ih
            simp -implicitDefEqProofs (maxSteps := 2000000) (disch := omega) only [go_sem, reduceCtorEq, Nat.reduceAdd, Nat.reduceSub, Nat.reduceMul, Nat.reduceLT, Nat.reduceLeDiff, Nat.reduceEqDiff, Nat.reduceBEq, Int.reduceToNat, Int.reduceLT, Int.reduceLE, Int.reduceEq, Int.reduceNeg, Int.reduceAdd, Int.reduceSub, Int.reduceMul, ↓reduceIte, Int.reduceBEq, Int.reduceBNe, hgcl]
            exact (ih trivial (j ++ j2)).castS (by simp) (by simp [upd, ins, subF, lookA])
    · simp -implicitDefEqProofs (maxSteps := 2000000) (disch := omega) only [go_sem, reduceCtorEq, Nat.reduceAdd, Nat.reduceSub, Nat.reduceMul, Nat.reduceLT, Nat.reduceLeDiff, Nat.reduceEqDiff, Nat.reduceBEq, Int.reduceToNat, Int.reduceLT, Int.reduceLE, Int.reduceEq, Int.reduceNeg, Int.reduceAdd, Int.reduceSub, Int.reduceMul, ↓reduceIte, Int.reduceBEq, Int.reduceBNe, hgcl, hSf]
      rw [bestP_skip hz] at ih
      exact (ih trivial j).castS rfl (by simp [upd, ins, subF, lookA])
  · intro j _
    have hbS := hb S.length
    simp -implicitDefEqProofs (maxSteps := 2000000) (disch := omega) only [go_sem, reduceCtorEq, Nat.reduceAdd, Nat.reduceSub, Nat.reduceMul, Nat.reduceLT, Nat.reduceLeDiff, Nat.reduceEqDiff, Nat.reduceBEq, Int.reduceToNat, Int.reduceLT, Int.reduceLE, Int.reduceEq, Int.reduceNeg, Int.reduceAdd, Int.reduceSub, Int.reduceMul, ↓reduceIte, Int.reduceBEq, Int.reduceBNe, hgcl]
    rcases hx with ⟨h1, h2⟩ | ⟨h1, h2, h3, h4⟩
    · exact ⟨fun _ h => h h2, fun h => absurd h1 h⟩
    · exact ⟨fun h => by omega, fun _ => ⟨fun _ => ⟨fun _ h => h h4, fun h => h h3⟩, fun h => h h2⟩⟩
end Go.Proofs
