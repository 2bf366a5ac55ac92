/- Texts of a proof: lemmas. -/
import Derived.Test.YthejgnlikaiddaaDoorPW1
set_option linter.unusedSimpArgs false
set_option linter.unusedVariables false
set_option maxRecDepth 100000
namespace Go.Proofs
open Go Go.Mu

def Tryd.ordX3 : Nat → List Nat × List (Nat × List Nat)
  | 10 => ([0, 1, 0, 7, 0, 0, 63, 127], [(0, []), (2, []), (1, [1]), (3, [3]), (4, []), (5, []), (6, []), (7, [])])
  | 13 => ([0, 1, 0, 7, 15, 0, 32, 0, 128, 480, 1023, 2047, 4095], [(0, []), (1, []), (2, []), (3, []), (4, []), (5, []), (6, []), (7, []), (8, []), (9, []), (10, []), (11, []), (12, [])])
  | _ => ([], [])
theorem Tryd.ordX3_10 : Tryd.ordX3 10 = ([0, 1, 0, 7, 0, 0, 63, 127], [(0, []), (2, []), (1, [1]), (3, [3]), (4, []), (5, []), (6, []), (7, [])]) := rfl
theorem Tryd.ordX3_13 : Tryd.ordX3 13 = ([0, 1, 0, 7, 15, 0, 32, 0, 128, 480, 1023, 2047, 4095], [(0, []), (1, []), (2, []), (3, []), (4, []), (5, []), (6, []), (7, []), (8, []), (9, []), (10, []), (11, []), (12, [])]) := rfl
attribute [go_sem] Tryd.ordX3_10 Tryd.ordX3_13
set_option maxHeartbeats 400000000 in
theorem plateForged_c (nums : List Int) (hl : nums.length ≤ 4294967296) (σ : List AObj) : ACalls Tryd.prog 4 [.list .no 1 (nums.map (.int .i64))] σ (fun v _ => v = .bool true) := by
  refine ACalls.of_evN 13 (E := Tryd.Ev 148 Tryd.ordX3 fs19) (Tryd.envOKV 148 Tryd.ordX3 fs19 fs19_ok) Tryd.kp4 Tryd.func4 rfl (by kernel_rfl) (by simp [Tryd.Ev]) (Callable.of Tryd.func4 (by kernel_rfl) (by kernel_rfl)) (by kernel_rfl) ?_
  simp -implicitDefEqProofs (maxSteps := 2000000) (disch := omega) only [go_sem, reduceCtorEq, Nat.reduceAdd, Nat.reduceSub, Nat.reduceMul, Nat.reduceLT, Nat.reduceLeDiff, Nat.reduceEqDiff, Nat.reduceBEq, Int.reduceToNat, Int.reduceLT, Int.reduceLE, Int.reduceEq, Int.reduceNeg, Int.reduceAdd, Int.reduceSub, Int.reduceMul, ↓reduceIte, Int.reduceBEq, Int.reduceBNe]
  refine newPot_c nums .no hl _ _ fun s0 junk0 => ?_
  have hp : PotAt (σ ++ (.cells [.int .u64 s0] :: junk0)) σ.length := ⟨s0, by rw [hget_at0]; rfl⟩
  generalize σ ++ (.cells [.int .u64 s0] :: junk0) = σ1 at hp ⊢
  generalize σ.length = r at hp ⊢
  simp -implicitDefEqProofs (maxSteps := 2000000) (disch := omega) only [go_sem, reduceCtorEq, Nat.reduceAdd, Nat.reduceSub, Nat.reduceMul, Nat.reduceLT, Nat.reduceLeDiff, Nat.reduceEqDiff, Nat.reduceBEq, Int.reduceToNat, Int.reduceLT, Int.reduceLE, Int.reduceEq, Int.reduceNeg, Int.reduceAdd, Int.reduceSub, Int.reduceMul, ↓reduceIte, Int.reduceBEq, Int.reduceBNe]
  refine catalogueOf_c r 3 3 (by omega) (by omega) _ hp _ fun s1 c junk1 hC _ _ => ?_
  replace hp : PotAt (pw σ1 r s1 ++ junk1) r := (hp.pw s1).app
  generalize pw σ1 r s1 ++ junk1 = σ2 at hp ⊢
  clear junk0 junk1
  have hr := hp.lt
  have hcat := okCat_of hC
  have hcav : c.av = .agg [.int .i64 c.features, .list .no 3 (c.models.map Model.av)] := rfl
  simp -implicitDefEqProofs (maxSteps := 2000000) (disch := omega) only [go_sem, reduceCtorEq, Nat.reduceAdd, Nat.reduceSub, Nat.reduceMul, Nat.reduceLT, Nat.reduceLeDiff, Nat.reduceEqDiff, Nat.reduceBEq, Int.reduceToNat, Int.reduceLT, Int.reduceLE, Int.reduceEq, Int.reduceNeg, Int.reduceAdd, Int.reduceSub, Int.reduceMul, ↓reduceIte, Int.reduceBEq, Int.reduceBNe, length_pw, hget_pw0, hget_pw, hset_pw0, hset_pw, hcav]
  rw [← hcav]
  refine oldOf_c r c hC _ hp.app _ fun s2 o i1 k1 n1 junk2 hO => ?_
  rw [pw_app hr]
  have hOo := hO.ok
  clear hO
  obtain ⟨S, pl, ch⟩ := o
  have hcav2 : (.agg [.int .i64 c.features, .list .no 3 (c.models.map Model.av)] : AV) = c.av := rfl
  simp only [Old.av]
  simp -implicitDefEqProofs (maxSteps := 2000000) (disch := omega) only [go_sem, reduceCtorEq, Nat.reduceAdd, Nat.reduceSub, Nat.reduceMul, Nat.reduceLT, Nat.reduceLeDiff, Nat.reduceEqDiff, Nat.reduceBEq, Int.reduceToNat, Int.reduceLT, Int.reduceLE, Int.reduceEq, Int.reduceNeg, Int.reduceAdd, Int.reduceSub, Int.reduceMul, ↓reduceIte, Int.reduceBEq, Int.reduceBNe, length_pw, hget_pw0, hget_pw, hset_pw0, hset_pw]
  rw [hcav2]
  refine oldOf_c r c hC _ (hp.pw _).app _ fun s3 x i2 k2 n2 junk3 hX => ?_
  rw [pw_pwa hr]
  have hXo := hX.ok
  clear hX
  obtain ⟨S', pl', ch'⟩ := x
  simp only [Old.av, List.append_assoc, List.cons_append, List.nil_append]
  simp -implicitDefEqProofs (maxSteps := 2000000) (disch := omega) only [go_sem, reduceCtorEq, Nat.reduceAdd, Nat.reduceSub, Nat.reduceMul, Nat.reduceLT, Nat.reduceLeDiff, Nat.reduceEqDiff, Nat.reduceBEq, Int.reduceToNat, Int.reduceLT, Int.reduceLE, Int.reduceEq, Int.reduceNeg, Int.reduceAdd, Int.reduceSub, Int.reduceMul, ↓reduceIte, Int.reduceBEq, Int.reduceBNe, length_pw, hget_pw0, hget_pw, hset_pw0, hset_pw]
  refine odds_c r 1 2 (by omega) (by omega) _ (hp.pw _).app _ fun s4 b => ?_
  rw [pw_pwa hr]
  simp -implicitDefEqProofs (maxSteps := 2000000) (disch := omega) only [go_sem, reduceCtorEq, Nat.reduceAdd, Nat.reduceSub, Nat.reduceMul, Nat.reduceLT, Nat.reduceLeDiff, Nat.reduceEqDiff, Nat.reduceBEq, Int.reduceToNat, Int.reduceLT, Int.reduceLE, Int.reduceEq, Int.reduceNeg, Int.reduceAdd, Int.reduceSub, Int.reduceMul, ↓reduceIte, Int.reduceBEq, Int.reduceBNe, length_pw, hget_pw0, hget_pw, hset_pw0, hset_pw]
  change ARun _ _ _ _ _ _
  refine ARun.cutC (Tryd.envOKV 148 Tryd.ordX3 fs19 fs19_ok) 2 (α := ByteArray) (fun P => OkO c ⟨S, P, ch⟩) (fun P => [(2, .bool false), (3, .ptr r 0), (4, .ptr σ2.length 0), (5, .ptr (σ2.length + (junk2.length + 1)) 0)])
    (fun P => pw σ2 r s4 ++ (.cells [.int .i64 c.features, .list .no 3 (c.models.map Model.av)] :: (junk2 ++ (.cells [isv S, .str P, .int .i64 ch] :: (junk3 ++ [.cells [isv S', .str pl', .int .i64 ch']]))))) (by kernel_rfl) (by kernel_rfl) (fun K Q' hG => ?way) ?rest
  case way =>
    cases b
    · simp -implicitDefEqProofs (maxSteps := 2000000) (disch := omega) only [go_sem, reduceCtorEq, Nat.reduceAdd, Nat.reduceSub, Nat.reduceMul, Nat.reduceLT, Nat.reduceLeDiff, Nat.reduceEqDiff, Nat.reduceBEq, Int.reduceToNat, Int.reduceLT, Int.reduceLE, Int.reduceEq, Int.reduceNeg, Int.reduceAdd, Int.reduceSub, Int.reduceMul, ↓reduceIte, Int.reduceBEq, Int.reduceBNe, length_pw, hget_pw0, hget_pw, hset_pw0, hset_pw]
      change ARun _ _ _ _ _ _
      exact (hG pl hOo).castS (by first | rfl | simp) (by simp [upd, ins, subF, lookA])
    · simp -implicitDefEqProofs (maxSteps := 2000000) (disch := omega) only [go_sem, reduceCtorEq, Nat.reduceAdd, Nat.reduceSub, Nat.reduceMul, Nat.reduceLT, Nat.reduceLeDiff, Nat.reduceEqDiff, Nat.reduceBEq, Int.reduceToNat, Int.reduceLT, Int.reduceLE, Int.reduceEq, Int.reduceNeg, Int.reduceAdd, Int.reduceSub, Int.reduceMul, ↓reduceIte, Int.reduceBEq, Int.reduceBNe, length_pw, hget_pw0, hget_pw, hset_pw0, hset_pw]
      change ARun _ _ _ _ _ _
      exact (hG pl' ⟨hOo.seen, hXo.plate, hXo.psize, hOo.changed⟩).castS (by first | rfl | simp) (by simp [upd, ins, subF, lookA])
  case rest =>
  intro P hPo
  clear hOo hXo
  generalize junk3 ++ [AObj.cells [isv S', .str pl', .int .i64 ch']] = j5
  have hv := ck_of_okO hC hPo
  have hko := okOld_of hC hPo
  refine ev_sound (Tryd.envOKV 148 Tryd.ordX3 fs19 fs19_ok) (n := 100000) (by kernel_rfl) ?_
  by_cases hz : P.size = 0
  · have f1 := forgedM_none (c := c) (o := ⟨S, P, ch⟩) hv hz
    simp -implicitDefEqProofs (maxSteps := 2000000) (disch := omega) only [go_sem, reduceCtorEq, Nat.reduceAdd, Nat.reduceSub, Nat.reduceMul, Nat.reduceLT, Nat.reduceLeDiff, Nat.reduceEqDiff, Nat.reduceBEq, Int.reduceToNat, Int.reduceLT, Int.reduceLE, Int.reduceEq, Int.reduceNeg, Int.reduceAdd, Int.reduceSub, Int.reduceMul, ↓reduceIte, Int.reduceBEq, Int.reduceBNe, length_pw, hget_pw0, hget_pw, hset_pw0, hset_pw, str_nil, hz, Cat_eta, hcat, hko, f1]
  · have h4 : P.size = 4 := by have := hPo.psize; simp only at this; omega
    have hSl : S.length ≤ 4294967296 := hko.1
    have hBo : OkO c ⟨S, { data := #[] }, ch⟩ := okO_bare hPo
    have hkb := okOld_of hC hBo
    have hvb := ck_of_okO hC hBo
    simp -implicitDefEqProofs (maxSteps := 2000000) (disch := omega) only [go_sem, reduceCtorEq, Nat.reduceAdd, Nat.reduceSub, Nat.reduceMul, Nat.reduceLT, Nat.reduceLeDiff, Nat.reduceEqDiff, Nat.reduceBEq, Int.reduceToNat, Int.reduceLT, Int.reduceLE, Int.reduceEq, Int.reduceNeg, Int.reduceAdd, Int.reduceSub, Int.reduceMul, ↓reduceIte, Int.reduceBEq, Int.reduceBNe, length_pw, hget_pw0, hget_pw, hset_pw0, hset_pw, str_nil, hz, hSl]
    refine upto_c r 3 (by omega) _ (hp.pw _).app _ fun s5 i0 hi1 hi2 => ?_
    rw [pw_pwa hr]
    obtain ⟨i, rfl⟩ : ∃ i : Nat, i0 = i := ⟨i0.toNat, by omega⟩
    have hi : i < 4 := by omega
    clear hi1 hi2
    have hWo : OkO c ⟨S, wornP P i, ch⟩ := ⟨hPo.seen, wornP_ok h4 hi hPo.plate, .inr (wornP_size h4 hi), hPo.changed⟩
    have hkw := okOld_of hC hWo
    have hvw := ck_of_okO hC hWo
    have ht : ((i : Int) + 1).toNat = i + 1 := by omega
    have e1 : (P.extract 0 i).size = i := by rw [ext_size (by omega)]; omega
    have e2 : ({ data := #[63] } : ByteArray).size = 1 := rfl
    have e3 : (P.extract 0 i ++ { data := #[63] }).size = i + 1 := by rw [ByteArray.size_append, e1, e2]
    have e4 : (P.extract (i + 1) 4).size = 3 - i := by rw [ext_size (by omega)]; omega
    have e5 : (P.extract 0 i ++ { data := #[63] }) ++ P.extract (i + 1) 4 = wornP P i := rfl
    have g1 : fitsM c ⟨S, P, ch⟩ = if truthsM c ⟨S, P, ch⟩ = [] then ([], 9) else ((truthsM c ⟨S, P, ch⟩).map Made.pair, 0) := fitsM_val hv
    have g2 : fitsM c ⟨S, { data := #[] }, ch⟩ = if truthsM c ⟨S, { data := #[] }, ch⟩ = [] then ([], 9) else ((truthsM c ⟨S, { data := #[] }, ch⟩).map Made.pair, 0) := fitsM_val hvb
    have g3 : forgedM c ⟨S, P, ch⟩ = if truthsM c ⟨S, { data := #[] }, ch⟩ = [] then (false, 9) else (decide (truthsM c ⟨S, P, ch⟩ = []), 0) := forgedM_val hv hz
    have g4 : forgedM c ⟨S, wornP P i, ch⟩ = if truthsM c ⟨S, { data := #[] }, ch⟩ = [] then (false, 9) else (decide (truthsM c ⟨S, wornP P i, ch⟩ = []), 0) := forgedM_val hvw (by simp only; rw [wornP_size h4 hi]; omega)
    have hm1 := truths_mono (c := c) (o := ⟨S, P, ch⟩) (o' := ⟨S, { data := #[] }, ch⟩) (fun _ _ h => h) (fun n _ => reads_empty rfl)
    have hm2 := truths_mono (c := c) (o := ⟨S, P, ch⟩) (o' := ⟨S, wornP P i, ch⟩) (fun _ _ h => h) (fun n h => wornP_reads h4 hi h)
    obtain ⟨L1, L2, f1, f2, f3, f4, b3, b4, q1, q2, q3, q4, hall⟩ : ∃ (L1 L2 : List (List Int)) (f1 f2 f3 f4 : Int) (b3 b4 : Bool), fitsM c ⟨S, P, ch⟩ = (L1, f1) ∧ fitsM c ⟨S, { data := #[] }, ch⟩ = (L2, f2) ∧ forgedM c ⟨S, P, ch⟩ = (b3, f3) ∧ forgedM c ⟨S, wornP P i, ch⟩ = (b4, f4) ∧
        ((f1 = 9 ∧ f2 = 9 ∧ f3 = 9 ∧ f4 = 9) ∨ (f2 = 0 ∧ f3 = 0 ∧ f4 = 0 ∧ f1 = 9 ∧ b3 = true) ∨ (f2 = 0 ∧ f3 = 0 ∧ f4 = 0 ∧ f1 = 0 ∧ b3 = false ∧ b4 = false)) := by
      refine ⟨(fitsM c ⟨S, P, ch⟩).1, (fitsM c ⟨S, { data := #[] }, ch⟩).1, (fitsM c ⟨S, P, ch⟩).2, (fitsM c ⟨S, { data := #[] }, ch⟩).2, (forgedM c ⟨S, P, ch⟩).2, (forgedM c ⟨S, wornP P i, ch⟩).2, (forgedM c ⟨S, P, ch⟩).1, (forgedM c ⟨S, wornP P i, ch⟩).1, rfl, rfl, rfl, rfl, ?_⟩
      rw [g1, g2, g3, g4]
      generalize truthsM c ⟨S, P, ch⟩ = T at *
      generalize truthsM c ⟨S, { data := #[] }, ch⟩ = Tb at *
      generalize truthsM c ⟨S, wornP P i, ch⟩ = Tw at *
      by_cases hb : Tb = []
      · have hT : T = [] := by
          cases T with
          | nil => rfl
          | cons a _ => have := hm1 a (by simp); rw [hb] at this; simp at this
        simp [hb, hT]
      · by_cases hT : T = []
        · simp [hb, hT]
        · have hW : ¬ Tw = [] := fun e => hT (by
            cases T with
            | nil => rfl
            | cons a _ => have := hm2 a (by simp); rw [e] at this; simp at this)
          simp [hb, hT, hW]
    clear hm1 hm2 g1 g2 g3 g4
    rcases hall with ⟨h1, h2, h3, h4'⟩ | ⟨h2, h3, h4', h1, rfl⟩ | ⟨h2, h3, h4', h1, rfl, rfl⟩
    rotate_left
    · cases b4
      all_goals simp -implicitDefEqProofs (maxSteps := 2000000) (disch := omega) only [go_sem, reduceCtorEq, Nat.reduceAdd, Nat.reduceSub, Nat.reduceMul, Nat.reduceLT, Nat.reduceLeDiff, Nat.reduceEqDiff, Nat.reduceBEq, Int.reduceToNat, Int.reduceLT, Int.reduceLE, Int.reduceEq, Int.reduceNeg, Int.reduceAdd, Int.reduceSub, Int.reduceMul, ↓reduceIte, Int.reduceBEq, Int.reduceBNe, length_pw, hget_pw0, hget_pw, hset_pw0, hset_pw, str_nil, hz, h4, ht, e1, e2, e3, e4, e5, Cat_eta, hcat, hko, hkb, hkw, q1, q2, q3, q4]
    all_goals
      simp -implicitDefEqProofs (maxSteps := 2000000) (disch := omega) only [go_sem, reduceCtorEq, Nat.reduceAdd, Nat.reduceSub, Nat.reduceMul, Nat.reduceLT, Nat.reduceLeDiff, Nat.reduceEqDiff, Nat.reduceBEq, Int.reduceToNat, Int.reduceLT, Int.reduceLE, Int.reduceEq, Int.reduceNeg, Int.reduceAdd, Int.reduceSub, Int.reduceMul, ↓reduceIte, Int.reduceBEq, Int.reduceBNe, length_pw, hget_pw0, hget_pw, hset_pw0, hset_pw, str_nil, hz, h4, ht, e1, e2, e3, e4, e5, Cat_eta, hcat, hko, hkb, hkw, q1, q2, q3, q4]
end Go.Proofs
