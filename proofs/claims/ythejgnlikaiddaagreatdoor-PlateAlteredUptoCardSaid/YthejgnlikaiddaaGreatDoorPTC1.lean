/- Texts of a proof: lemmas. -/
import Derived.Test.YthejgnlikaiddaaGreatDoorPTA1
set_option linter.unusedSimpArgs false
set_option linter.unusedVariables false
set_option maxRecDepth 100000
namespace Go.Proofs
open Go Go.Mu

def Tryz.ordA : Nat → List Nat × List (Nat × List Nat)
  | 12 => ([0, 1, 0, 7, 15, 0, 0, 0, 192, 448, 992, 0, 4064, 8160, 16383], [(0, []), (1, []), (2, []), (3, []), (4, []), (5, []), (6, []), (7, []), (8, []), (9, []), (10, [10]), (11, []), (12, []), (13, []), (14, [14])])
  | _ => ([], [])
theorem Tryz.ordA_12 : Tryz.ordA 12 = ([0, 1, 0, 7, 15, 0, 0, 0, 192, 448, 992, 0, 4064, 8160, 16383], [(0, []), (1, []), (2, []), (3, []), (4, []), (5, []), (6, []), (7, []), (8, []), (9, []), (10, [10]), (11, []), (12, []), (13, []), (14, [14])]) := rfl
attribute [go_sem] Tryz.ordA_12
set_option maxHeartbeats 40000000 in
theorem rAltered_p (c : Cat) (o : Old) (hc : okCat c) (ho : okOld o) : PureV Tryz.prog 33 [c.av, o.av] (.tup [isv (alteredM c o).1, .int .i64 (alteredM c o).2]) := by
  refine PureV.of_ev (E := Tryz.Ev 67 Tryz.ordA fs121) (Tryz.envOKV 67 Tryz.ordA fs121 fs121_ok) (isvI_plain) Tryz.kp33 Tryz.func33 rfl (by kernel_rfl) (by simp [Tryz.Ev]) (Callable.of Tryz.func33 (by kernel_rfl) (by kernel_rfl)) (by kernel_rfl) ?_
  intro σ
  simp only [Cat.av, Old.av]
  by_cases hk : (knownM c o []).2 = 0
  · obtain ⟨hv, hne, hke⟩ := knownM_ok hk
    obtain ⟨hC, hO⟩ := okO_of_ck hv
    have hlen := truthsM_len (o := o) hC
    have hr : alteredM c o = (altP o.seen (truthsM c o) o.seen.length, 0) := by unfold alteredM; rw [if_pos hk]
    have hf : fitsM c o = ((truthsM c o).map Made.pair, 0) := by unfold fitsM; rw [if_pos hk]
    have hall : ∀ m ∈ truthsM c o, m ∈ allMade c := fun m hm => (mem_truths.1 hm).1
    rw [hr]
    have hs4 := seen_len hC hO
    have hso := hO.seen.1
    have hs0 : ∀ x ∈ o.seen, 0 ≤ x := fun x hx => (hO.seen.2 x hx).1
    have hfe := hC.features
    have hcav : c.av = .agg [.int .i64 c.features, .list .no 3 (c.models.map Model.av)] := rfl
    simp -implicitDefEqProofs (maxSteps := 2000000) (disch := omega) only [go_sem, reduceCtorEq, Nat.reduceAdd, Nat.reduceSub, Nat.reduceMul, Nat.reduceLT, Nat.reduceLeDiff, Nat.reduceEqDiff, Nat.reduceBEq, Int.reduceToNat, Int.reduceLT, Int.reduceLE, Int.reduceEq, Int.reduceNeg, Int.reduceAdd, Int.reduceSub, Int.reduceMul, ↓reduceIte, Int.reduceBEq, Int.reduceBNe, Cat_eta, Old_eta, hc, ho, hf]
    clear hke hr hne hv hk hf
    generalize truthsM c o = L at hlen hall ⊢
    generalize o.seen = S at hs4 hso hs0 ⊢
    have hisv : isv S = .list .no 1 (S.map (.int .i64)) := rfl
    rw [hisv]
    refine ARun.ghost 8 1 (sz0 := 0) rfl (by simp [lookA]) ?_
    simp only [ins, ↓reduceIte, List.append_assoc, List.cons_append, List.nil_append, List.length_append, List.length_cons, List.length_nil, Nat.zero_add, Nat.reduceEqDiff]
    have hAl : ∀ i, (altP S L i).length = i := fun i => by simp [altP]
    have hAs : ∀ i, altP S L (i + 1) = altP S L i ++ [vdN (altN (tg S (i : Int)) i L) L.length] := fun i => by simp [altP, List.range_succ]
    have hA0 : altP S L 0 = [] := rfl
    generalize altP S L = A at hAl hAs hA0 ⊢
    have hlm : ((L.map Made.pair).map isv).length = L.length := by simp
    refine ARun.forG (Tryz.envOKV 67 Tryz.ordA fs121 fs121_ok) S.length (fun _ => True) (fun i => [(8, .list (.own (σ.length + 2)) 1 ((A i).map (.int .i64))), (9, .int .i64 i)]) (fun i j => σ ++ (.cells [.int .i64 c.features, .list .no 3 (c.models.map Model.av)] :: .cells [.list .no 1 (S.map (.int .i64)), .str o.plate, .int .i64 o.changed] :: .tail i 1 :: j)) [] (by kernel_rfl) (by kernel_rfl) rfl (by simp [upd, ins, subF, lookA, hA0]) trivial ?_ ?_
    · intro K Q' hK i j hi _ ih
      have hsi : idx (S.map (AV.int .i64)) (i : Int) = some (.int .i64 (tg S i)) := by rw [idx_nat hi, tgE hi]
      have hx0 : 0 ≤ tg S (i : Int) := by rw [tgE hi]; exact hs0 _ (List.getElem_mem hi)
      rw [hAs] at ih
      have hAi := hAl i
      clear hAl hAs hA0
      generalize A i = B at ih hAi ⊢
      generalize tg S (i : Int) = x at hsi ih hx0
      simp -implicitDefEqProofs (maxSteps := 2000000) (disch := omega) only [go_sem, reduceCtorEq, Nat.reduceAdd, Nat.reduceSub, Nat.reduceMul, Nat.reduceLT, Nat.reduceLeDiff, Nat.reduceEqDiff, Nat.reduceBEq, Int.reduceToNat, Int.reduceLT, Int.reduceLE, Int.reduceEq, Int.reduceNeg, Int.reduceAdd, Int.reduceSub, Int.reduceMul, ↓reduceIte, Int.reduceBEq, Int.reduceBNe]
      have hcs : ∀ k, (h : k < L.length) → altN x i (L.take (k + 1)) = altN x i (L.take k) + if (0 < x ∧ x ≠ tg L[k].look (i : Int)) then 1 else 0 := fun k h => by
        unfold altN
        rw [List.take_succ_eq_append_getElem h, List.filter_append, List.length_append]
        by_cases h1 : 0 < x <;> by_cases h2 : x = tg L[k].look (i : Int) <;> simp [h1, h2]
      refine ARun.forG (Tryz.envOKV 67 Tryz.ordA fs121 fs121_ok) L.length (fun _ => True) (fun k => [(10, .int .i64 (altN x i (L.take k))), (11, .int .i64 k)]) (fun _ j2 => σ ++ (.cells [.int .i64 c.features, .list .no 3 (c.models.map Model.av)] :: .cells [.list .no 1 (S.map (.int .i64)), .str o.plate, .int .i64 o.changed] :: .tail i 1 :: (j ++ j2))) [] (by kernel_rfl) (by repeat (first | exact hK | (rw [todoOK_cons, Bool.and_eq_true]; refine ⟨by kernel_rfl, ?_⟩))) (by simp) (by simp [upd, ins, subF, lookA, altN]) trivial ?_ ?_
      · intro K2 Q2 hK2 k j2 hk _ ih2
        obtain ⟨g1, ⟨g2, g3⟩, ⟨g4, g5⟩, g6, g7⟩ := pair_at hC (hall _ (List.getElem_mem hk))
        have g8 := g7 i (by omega) (by omega)
        have hidx : idx ((L.map Made.pair).map isv) (k : Int) = some (.list .no 1 ((L[k]).pair.map (.int .i64))) := by
          have h2 : k < (L.map Made.pair).length := by rw [List.length_map]; exact hk
          rw [idx_nat h2, List.getElem_map]; rfl
        have hle := @altN_le x i (L.take k)
        rw [List.length_take] at hle
        rw [hcs k hk, ← g8] at ih2
        generalize altN x i (L.take k) = n at hle ih2 ⊢
        have hfi : idx ((lookAt c (L[k]).pair).map (AV.int .i64)) (i : Int) = some (.int .i64 (tg (lookAt c (L[k]).pair) i)) := by
          have hn : i < (lookAt c (L[k]).pair).length := by omega
          rw [idx_nat hn, tgE hn]
        clear hcs g7 g8 hall ih
        generalize L[k].pair = t at g1 g2 g3 g4 g5 g6 hidx hfi ih2
        generalize tg (lookAt c t) (i : Int) = y at hfi ih2
        by_cases h1 : x = 0
        · simp -implicitDefEqProofs (maxSteps := 2000000) (disch := omega) only [go_sem, reduceCtorEq, Nat.reduceAdd, Nat.reduceSub, Nat.reduceMul, Nat.reduceLT, Nat.reduceLeDiff, Nat.reduceEqDiff, Nat.reduceBEq, Int.reduceToNat, Int.reduceLT, Int.reduceLE, Int.reduceEq, Int.reduceNeg, Int.reduceAdd, Int.reduceSub, Int.reduceMul, ↓reduceIte, Int.reduceBEq, Int.reduceBNe, hidx, hsi, Cat_eta, hC, g1, g2, g3, g4, g5, isv, hfi]
          exact (ih2 trivial j2).castS (by simp) (by simp [upd, ins, subF, lookA, h1])
        · have h1' : 0 < x := by omega
          by_cases h2 : x = y
          · simp -implicitDefEqProofs (maxSteps := 2000000) (disch := omega) only [go_sem, reduceCtorEq, Nat.reduceAdd, Nat.reduceSub, Nat.reduceMul, Nat.reduceLT, Nat.reduceLeDiff, Nat.reduceEqDiff, Nat.reduceBEq, Int.reduceToNat, Int.reduceLT, Int.reduceLE, Int.reduceEq, Int.reduceNeg, Int.reduceAdd, Int.reduceSub, Int.reduceMul, ↓reduceIte, Int.reduceBEq, Int.reduceBNe, hidx, hsi, Cat_eta, hC, g1, g2, g3, g4, g5, isv, hfi]
            exact (ih2 trivial j2).castS (by simp) (by simp [upd, ins, subF, lookA, h1', h2])
          · simp -implicitDefEqProofs (maxSteps := 2000000) (disch := omega) only [go_sem, reduceCtorEq, Nat.reduceAdd, Nat.reduceSub, Nat.reduceMul, Nat.reduceLT, Nat.reduceLeDiff, Nat.reduceEqDiff, Nat.reduceBEq, Int.reduceToNat, Int.reduceLT, Int.reduceLE, Int.reduceEq, Int.reduceNeg, Int.reduceAdd, Int.reduceSub, Int.reduceMul, ↓reduceIte, Int.reduceBEq, Int.reduceBNe, hidx, hsi, Cat_eta, hC, g1, g2, g3, g4, g5, isv, hfi]
            exact (ih2 trivial j2).castS (by simp) (by simp [upd, ins, subF, lookA, h1', h2])
      · intro j2 _
        rw [List.take_length]
        clear hcs
        have hvd : vdN (altN x i L) L.length = if altN x i L = L.length then 1 else if altN x i L = 0 then 2 else 3 := rfl
        rw [hvd] at ih
        have hle := @altN_le x i L
        generalize altN x i L = n at hle ih ⊢
        by_cases h1 : n = L.length
        · simp -implicitDefEqProofs (maxSteps := 2000000) (disch := omega) only [go_sem, reduceCtorEq, Nat.reduceAdd, Nat.reduceSub, Nat.reduceMul, Nat.reduceLT, Nat.reduceLeDiff, Nat.reduceEqDiff, Nat.reduceBEq, Int.reduceToNat, Int.reduceLT, Int.reduceLE, Int.reduceEq, Int.reduceNeg, Int.reduceAdd, Int.reduceSub, Int.reduceMul, ↓reduceIte, Int.reduceBEq, Int.reduceBNe, hlm]
          exact (ih trivial (j ++ j2)).castS (by simp [hAi]) (by simp [upd, ins, subF, lookA, h1])
        · by_cases h2 : n = 0
          · have h3 : ¬ 0 = L.length := by omega
            simp -implicitDefEqProofs (maxSteps := 2000000) (disch := omega) only [go_sem, reduceCtorEq, Nat.reduceAdd, Nat.reduceSub, Nat.reduceMul, Nat.reduceLT, Nat.reduceLeDiff, Nat.reduceEqDiff, Nat.reduceBEq, Int.reduceToNat, Int.reduceLT, Int.reduceLE, Int.reduceEq, Int.reduceNeg, Int.reduceAdd, Int.reduceSub, Int.reduceMul, ↓reduceIte, Int.reduceBEq, Int.reduceBNe, hlm]
            exact (ih trivial (j ++ j2)).castS (by simp [hAi]) (by simp [upd, ins, subF, lookA, h1, h2, h3])
          · simp -implicitDefEqProofs (maxSteps := 2000000) (disch := omega) only [go_sem, reduceCtorEq, Nat.reduceAdd, Nat.reduceSub, Nat.reduceMul, Nat.reduceLT, Nat.reduceLeDiff, Nat.reduceEqDiff, Nat.reduceBEq, Int.reduceToNat, Int.reduceLT, Int.reduceLE, Int.reduceEq, Int.reduceNeg, Int.reduceAdd, Int.reduceSub, Int.reduceMul, ↓reduceIte, Int.reduceBEq, Int.reduceBNe, hlm]
            exact (ih trivial (j ++ j2)).castS (by simp [hAi]) (by simp [upd, ins, subF, lookA, h1, h2])
    · intro j _
      simp -implicitDefEqProofs (maxSteps := 2000000) (disch := omega) only [go_sem, reduceCtorEq, Nat.reduceAdd, Nat.reduceSub, Nat.reduceMul, Nat.reduceLT, Nat.reduceLeDiff, Nat.reduceEqDiff, Nat.reduceBEq, Int.reduceToNat, Int.reduceLT, Int.reduceLE, Int.reduceEq, Int.reduceNeg, Int.reduceAdd, Int.reduceSub, Int.reduceMul, ↓reduceIte, Int.reduceBEq, Int.reduceBNe, isv]
  · have hr : alteredM c o = ([], (knownM c o []).2) := by unfold alteredM; rw [if_neg hk]
    have hf := @fits_known c o
    rw [hr]
    simp -implicitDefEqProofs (maxSteps := 2000000) (disch := omega) only [go_sem, reduceCtorEq, Nat.reduceAdd, Nat.reduceSub, Nat.reduceMul, Nat.reduceLT, Nat.reduceLeDiff, Nat.reduceEqDiff, Nat.reduceBEq, Int.reduceToNat, Int.reduceLT, Int.reduceLE, Int.reduceEq, Int.reduceNeg, Int.reduceAdd, Int.reduceSub, Int.reduceMul, ↓reduceIte, Int.reduceBEq, Int.reduceBNe, Cat_eta, Old_eta, hc, ho, hf, hk, isv]
def rAltered_s := spw2 tyCat.w tyOld.w fun c o => if okCat c ∧ okOld o then some (.tup [isv (alteredM c o).1, .int .i64 (alteredM c o).2]) else none
theorem rAltered_ok : ∀ xs v, rAltered_s xs = some v → PureV Tryz.prog 33 xs v :=
  spw2_ok fun c o v h => by have h := someIf h; rw [← h.2]; exact rAltered_p c o h.1.1 h.1.2
end Go.Proofs
set_option linter.unusedSimpArgs false
set_option linter.unusedVariables false
set_option maxRecDepth 100000
namespace Go.Proofs
open Go Go.Mu

set_option maxHeartbeats 4000000 in
theorem rLeast_p (c : Cat) (o : Old) (hc : okCat c) (ho : okOld o) : PureV Tryz.prog 35 [c.av, o.av] (.tup [.int .i64 (leastM c o).1, .int .i64 (leastM c o).2]) := by
  refine PureV.of_ev (E := Tryz.E 28 (fun _ => ([], [])) fs121) (Tryz.envOK 28 (fun _ => ([], [])) fs121 fs121_ok) (ii_plain) Tryz.kp35 Tryz.func35 rfl (by kernel_rfl) (by simp [Tryz.E]) (Callable.of Tryz.func35 (by kernel_rfl) (by kernel_rfl)) (by kernel_rfl) ?_
  intro σ
  obtain ⟨S, P, ch⟩ := o
  simp only [Cat.av, Old.av]
  by_cases hv : ckOld c ⟨S, P, ch⟩ = 0
  · obtain ⟨hC, hO⟩ := okO_of_ck hv
    have hfe := hC.features
    have hls := hO.seen.1
    simp only at hls
    have hOn : ∀ n : Nat, n ≤ 4 → OkO c ⟨S, P, (n : Int)⟩ := fun n hn => ⟨hO.seen, hO.plate, hO.psize, by simp only; omega⟩
    have hpp : prT = Made.pair := rfl
    simp -implicitDefEqProofs (maxSteps := 2000000) (disch := omega) only [go_sem, reduceCtorEq, Nat.reduceAdd, Nat.reduceSub, Nat.reduceMul, Nat.reduceLT, Nat.reduceLeDiff, Nat.reduceEqDiff, Nat.reduceBEq, Int.reduceToNat, Int.reduceLT, Int.reduceLE, Int.reduceEq, Int.reduceNeg, Int.reduceAdd, Int.reduceSub, Int.reduceMul, ↓reduceIte, Int.reduceBEq, Int.reduceBNe, Cat_eta, Old_eta, hc, ho, hv]
    refine ARun.forS (Tryz.envOK 28 (fun _ => ([], [])) fs121 fs121_ok) (S.length + 1) (fun i => ∀ k : Nat, k < i → truthsM c ⟨S, P, (k : Int)⟩ = []) (fun i => [(7, .int .i64 i)]) (fun i j => σ ++ (.cells [.int .i64 c.features, .list .no 3 (c.models.map Model.av)] :: .cells [isv S, .str P, .int .i64 (if i = 0 then ch else (i : Int) - 1)] :: j)) [] (by kernel_rfl) (by simp) (by simp [upd, ins, subF, lookA]) (fun k hk => by omega) ?_ ?_
    · intro i j hi hP ih
      have hOi := hOn i (by omega)
      have hlen := truthsM_len (o := ⟨S, P, (i : Int)⟩) hC
      have hiff := least_iff (k := (i : Int)) hv (by omega)
      have hpr : ∀ k : Nat, k < i → ¬ ((leastM c ⟨S, P, ch⟩).2 = 0 ∧ (leastM c ⟨S, P, ch⟩).1 ≤ k) := fun k hk h => (least_iff (k := (k : Int)) hv (by omega)).2 h (hP k hk)
      have hpos : 0 ≤ (leastM c ⟨S, P, ch⟩).1 := by
        rw [leastM_val hv]; split
        · exact Int.le_refl _
        · rename_i hn; obtain ⟨_, h2, _⟩ := leastL_spec (num := fun m : Made => (changedN m.look S : Int)) hn
          simp only at h2 ⊢; omega
      generalize (if i = 0 then ch else (i : Int) - 1) = x
      have hnx : (((i + 1 : Nat) : Int) - 1) = (i : Int) := by omega
      rw [if_neg (by omega), hnx] at ih
      by_cases hT : truthsM c ⟨S, P, (i : Int)⟩ = []
      · have ih := ih (fun k hk => by
          by_cases e : k = i
          · subst e; exact hT
          · exact hP k (by omega))
        clear hP hiff hpr hpos hOn
        simp -implicitDefEqProofs (maxSteps := 2000000) (disch := omega) only [go_sem, reduceCtorEq, Nat.reduceAdd, Nat.reduceSub, Nat.reduceMul, Nat.reduceLT, Nat.reduceLeDiff, Nat.reduceEqDiff, Nat.reduceBEq, Int.reduceToNat, Int.reduceLT, Int.reduceLE, Int.reduceEq, Int.reduceNeg, Int.reduceAdd, Int.reduceSub, Int.reduceMul, ↓reduceIte, Int.reduceBEq, Int.reduceBNe, Cat_eta, Old_eta, hC, hOi, hT]
        exact (ih j).castS (by simp) (by simp [upd, ins, subF, lookA])
      · have h1 := hiff.1 hT
        have e1 : (leastM c ⟨S, P, ch⟩).1 = i := by
          by_cases h0 : i = 0
          · omega
          · have := hpr (i - 1) (by omega)
            have h2 : ¬ (leastM c ⟨S, P, ch⟩).1 ≤ ((i - 1 : Nat) : Int) := fun h => this ⟨h1.1, h⟩
            omega
        have hz : 0 < (truthsM c ⟨S, P, (i : Int)⟩).length := List.length_pos_iff.2 hT
        have e0 := h1.1
        clear ih hP hiff hpr hpos hOn h1
        simp -implicitDefEqProofs (maxSteps := 2000000) (disch := omega) only [go_sem, reduceCtorEq, Nat.reduceAdd, Nat.reduceSub, Nat.reduceMul, Nat.reduceLT, Nat.reduceLeDiff, Nat.reduceEqDiff, Nat.reduceBEq, Int.reduceToNat, Int.reduceLT, Int.reduceLE, Int.reduceEq, Int.reduceNeg, Int.reduceAdd, Int.reduceSub, Int.reduceMul, ↓reduceIte, Int.reduceBEq, Int.reduceBNe, Cat_eta, Old_eta, hC, hOi, e1, e0]
    · intro j hP
      have e : leastM c ⟨S, P, ch⟩ = (0, 9) := by
        have hiff := least_iff (k := (S.length : Int)) hv (by omega)
        have hno : ¬ ((leastM c ⟨S, P, ch⟩).2 = 0 ∧ (leastM c ⟨S, P, ch⟩).1 ≤ S.length) := fun h => hiff.2 h (hP S.length (by omega))
        have hval := leastM_val hv
        have ea : (Old.all4 ⟨S, P, ch⟩) = ⟨S, P, 4⟩ := rfl
        rw [ea] at hval
        by_cases hn : truthsM c ⟨S, P, 4⟩ = []
        · rw [hval, if_pos hn]
        · rw [if_neg hn] at hval
          refine absurd ?_ hno
          obtain ⟨_, h2, _⟩ := leastL_spec (num := fun m : Made => (changedN m.look S : Int)) hn
          rw [hval]
          refine ⟨rfl, ?_⟩
          simp only at h2 ⊢
          rw [h2]
          have : changedN (leastL (fun m : Made => (changedN m.look S : Int)) (truthsM c ⟨S, P, 4⟩)).1.look S ≤ S.length := Nat.le_trans (List.length_filter_le _ _) (by simp)
          omega
      rw [e]
      simp -implicitDefEqProofs (maxSteps := 2000000) (disch := omega) only [go_sem, reduceCtorEq, Nat.reduceAdd, Nat.reduceSub, Nat.reduceMul, Nat.reduceLT, Nat.reduceLeDiff, Nat.reduceEqDiff, Nat.reduceBEq, Int.reduceToNat, Int.reduceLT, Int.reduceLE, Int.reduceEq, Int.reduceNeg, Int.reduceAdd, Int.reduceSub, Int.reduceMul, ↓reduceIte, Int.reduceBEq, Int.reduceBNe]
  · have hr : leastM c ⟨S, P, ch⟩ = (0, ckOld c ⟨S, P, ch⟩) := by unfold leastM; rw [if_pos hv]
    rw [hr]
    simp -implicitDefEqProofs (maxSteps := 2000000) (disch := omega) only [go_sem, reduceCtorEq, Nat.reduceAdd, Nat.reduceSub, Nat.reduceMul, Nat.reduceLT, Nat.reduceLeDiff, Nat.reduceEqDiff, Nat.reduceBEq, Int.reduceToNat, Int.reduceLT, Int.reduceLE, Int.reduceEq, Int.reduceNeg, Int.reduceAdd, Int.reduceSub, Int.reduceMul, ↓reduceIte, Int.reduceBEq, Int.reduceBNe, Cat_eta, Old_eta, hc, ho, hv]
def rLeast_s := spw2 tyCat.w tyOld.w fun c o => if okCat c ∧ okOld o then some (.tup [.int .i64 (leastM c o).1, .int .i64 (leastM c o).2]) else none
theorem rLeast_ok : ∀ xs v, rLeast_s xs = some v → PureV Tryz.prog 35 xs v :=
  spw2_ok fun c o v h => by have h := someIf h; rw [← h.2]; exact rLeast_p c o h.1.1 h.1.2
set_option maxHeartbeats 4000000 in
theorem rForged_p (c : Cat) (o : Old) (hc : okCat c) (ho : okOld o) : PureV Tryz.prog 37 [c.av, o.av] (.tup [.bool (forgedM c o).1, .int .i64 (forgedM c o).2]) := by
  refine PureV.of_ev (E := Tryz.E 29 (fun _ => ([], [])) fs121) (Tryz.envOK 29 (fun _ => ([], [])) fs121 fs121_ok) (bi_plain) Tryz.kp37 Tryz.func37 rfl (by kernel_rfl) (by simp [Tryz.E]) (Callable.of Tryz.func37 (by kernel_rfl) (by kernel_rfl)) (by kernel_rfl) ?_
  intro σ
  simp only [Cat.av, Old.av]
  by_cases hv : ckOld c o = 0
  · obtain ⟨hC, hO⟩ := okO_of_ck hv
    have hB := okO_bare hO
    have hl1 := truthsM_len (o := o) hC
    have hl2 := truthsM_len (o := o.bare) hC
    have hbe : (⟨o.seen, ⟨#[]⟩, o.changed⟩ : Old) = o.bare := rfl
    simp -implicitDefEqProofs (maxSteps := 2000000) (disch := omega) only [go_sem, reduceCtorEq, Nat.reduceAdd, Nat.reduceSub, Nat.reduceMul, Nat.reduceLT, Nat.reduceLeDiff, Nat.reduceEqDiff, Nat.reduceBEq, Int.reduceToNat, Int.reduceLT, Int.reduceLE, Int.reduceEq, Int.reduceNeg, Int.reduceAdd, Int.reduceSub, Int.reduceMul, ↓reduceIte, Int.reduceBEq, Int.reduceBNe, Cat_eta, hbe, hB, Old_eta, hC, hO, hc, ho, hv, str_nil]
    have hlz : ∀ l : List Made, l.length = 0 ↔ l = [] := fun l => List.length_eq_zero_iff
    refine ⟨fun r1 => ?_, fun r1 => ⟨fun r2 => ?_, fun r2 => ⟨fun r3 => ?_, fun r3 => ?_⟩⟩⟩
    all_goals (simp only [forgedM]; grind)
  · have : forgedM c o = (false, ckOld c o) := by unfold forgedM; rw [if_pos hv]
    rw [this]
    simp -implicitDefEqProofs (maxSteps := 2000000) (disch := omega) only [go_sem, reduceCtorEq, Nat.reduceAdd, Nat.reduceSub, Nat.reduceMul, Nat.reduceLT, Nat.reduceLeDiff, Nat.reduceEqDiff, Nat.reduceBEq, Int.reduceToNat, Int.reduceLT, Int.reduceLE, Int.reduceEq, Int.reduceNeg, Int.reduceAdd, Int.reduceSub, Int.reduceMul, ↓reduceIte, Int.reduceBEq, Int.reduceBNe, Cat_eta, Old_eta, hc, ho, hv]
def rForged_s := spw2 tyCat.w tyOld.w fun c o => if okCat c ∧ okOld o then some (.tup [.bool (forgedM c o).1, .int .i64 (forgedM c o).2]) else none
theorem rForged_ok : ∀ xs v, rForged_s xs = some v → PureV Tryz.prog 37 xs v :=
  spw2_ok fun c o v h => by have h := someIf h; rw [← h.2]; exact rForged_p c o h.1.1 h.1.2
end Go.Proofs
