/- Texts of a proof: lemmas. -/
import Derived.Test.YthejgnlikaiddaaDoorPTQ1
import Derived.Test.YthejgnlikaiddaaDoorMu3
import Derived.Test.YthejgnlikaiddaaDoorPRW
set_option linter.unusedSimpArgs false
set_option linter.unusedVariables false
set_option maxRecDepth 100000
namespace Go.Proofs
open Go Go.Mu

def allF (S : List Int) (P : ByteArray) (ch : Int) (B : List Made) (i : Nat) (M : Model) (k : Nat) : List Made := (B ++ (List.range k).map (madeOf i M)).filter (isTrue ⟨S, P, ch⟩)
theorem allY_add {F : List Made} {m : Made} : allY (F ++ [m]) = numS (allY F) m.year := by unfold allY; rw [List.map_append, List.foldl_append]; rfl
theorem allN_add {P : ByteArray} {F : List Made} {m : Made} : allN P (F ++ [m]) = wideR (allN P F) (ownR P m) := by unfold allN; rw [List.foldl_append]; rfl
theorem may_eq {P : ByteArray} {x : Rng} (h : x.lo ≤ x.hi) : ((P.toList == ({ data := #[] } : ByteArray).toList) || !(numsP x P).isEmpty) = fitsP x P := by
  unfold fitsP
  by_cases hz : P.size = 0
  · have hne : numsP x P ≠ [] := by
      refine List.ne_nil_of_mem (a := x.lo) ?_
      unfold numsP
      rw [List.mem_filter, List.mem_map]
      exact ⟨⟨0, List.mem_range.2 (by omega), by simp⟩, by unfold readsP; rw [hz]; rfl⟩
    have : (numsP x P).isEmpty = false := by cases h : numsP x P with | nil => exact absurd h hne | cons _ _ => rfl
    rw [this]; simp
  · have hq : (P.toList == ({ data := #[] } : ByteArray).toList) = false := by
      rw [Bool.eq_false_iff]; intro h; rw [beq_iff_eq, str_nil] at h; exact hz h
    rw [hq]; rfl
set_option maxHeartbeats 400000000 in
theorem allK_round {c : Cat} {σ j : List AObj} {S : List Int} {P : ByteArray} {ch : Int} {a b mm i : Nat} {B : List Made} {M : Model} (hC : OkC c) (hO : OkO c ⟨S, P, ch⟩) (hM : OkM c.features M) (hB : B.length ≤ 16)
    (hgc : ∀ l, hget (σ ++ l) a = some (AObj.cells [.int .i64 c.features, .list .no 3 (c.models.map Model.av)])) (hgo : ∀ l, hget (σ ++ l) b = some (AObj.cells [isv S, .str P, .int .i64 ch])) (hgm : ∀ x1 x2 x3 x4 l, hget (σ ++ (x1 :: x2 :: x3 :: x4 :: (j ++ ((AObj.cells [.int .i64 M.first, .list .no 1 (M.looks.map isv), .list .no 2 (M.nums.map Rng.av)]) :: l)))) mm = some (AObj.cells [.int .i64 M.first, .list .no 1 (M.looks.map isv), .list .no 2 (M.nums.map Rng.av)]))
    (K : List Item) (Q' : Post) (hK : todoOK (Tryd.Ev 398 Tryd.ordP fs60) K = true) (k : Nat) (j2 : List AObj) (hk : k < M.looks.length)
    (ih : ∀ j' : List AObj, ARun (Tryd.Ev 398 Tryd.ordP fs60) none (.inLoop (loopAt Tryd.f7 15) :: K) ⟨Tryd.kp7, [], upd [(2, AV.bool false), (4, .ptr a 0), (5, .ptr b 0), (11, .list (.own (σ.length + 2)) 1 (((allF S P ch B i M 0).map Made.pair).map isv)), (12, .list (.own (σ.length + 3)) 1 (((allF S P ch B i M 0).map (lkF S.length)).map isv)), (13, .ptr σ.length 0), (14, .ptr (σ.length + 1) 0), (15, .int .i64 i), (16, .ptr mm 0), (17, .int .i64 0)] [(11, .list (.own (σ.length + 2)) 1 (((allF S P ch B i M (k + 1)).map Made.pair).map isv)), (12, .list (.own (σ.length + 3)) 1 (((allF S P ch B i M (k + 1)).map (lkF S.length)).map isv)), (17, .int .i64 ((k + 1 : Nat) : Int))]⟩
      (σ ++ (.cells [.int .i64 (allY (allF S P ch B i M (k + 1))).lo, .int .i64 (allY (allF S P ch B i M (k + 1))).hi] :: .cells [.int .i64 (allN P (allF S P ch B i M (k + 1))).lo, .int .i64 (allN P (allF S P ch B i M (k + 1))).hi] :: .tail (allF S P ch B i M (k + 1)).length 1 :: .tail (allF S P ch B i M (k + 1)).length 1 :: (j ++ ((AObj.cells [.int .i64 M.first, .list .no 1 (M.looks.map isv), .list .no 2 (M.nums.map Rng.av)]) :: j')))) Q') :
    ev (Tryd.Ev 398 Tryd.ordP fs60) none 100000 (.code (loopAt Tryd.f7 15) :: .inLoop (loopAt Tryd.f7 15) :: K) ⟨Tryd.kp7, [], upd [(2, AV.bool false), (4, .ptr a 0), (5, .ptr b 0), (11, .list (.own (σ.length + 2)) 1 (((allF S P ch B i M 0).map Made.pair).map isv)), (12, .list (.own (σ.length + 3)) 1 (((allF S P ch B i M 0).map (lkF S.length)).map isv)), (13, .ptr σ.length 0), (14, .ptr (σ.length + 1) 0), (15, .int .i64 i), (16, .ptr mm 0), (17, .int .i64 0)] [(11, .list (.own (σ.length + 2)) 1 (((allF S P ch B i M k).map Made.pair).map isv)), (12, .list (.own (σ.length + 3)) 1 (((allF S P ch B i M k).map (lkF S.length)).map isv)), (17, .int .i64 (k : Int))]⟩
      (σ ++ (.cells [.int .i64 (allY (allF S P ch B i M k)).lo, .int .i64 (allY (allF S P ch B i M k)).hi] :: .cells [.int .i64 (allN P (allF S P ch B i M k)).lo, .int .i64 (allN P (allF S P ch B i M k)).hi] :: .tail (allF S P ch B i M k).length 1 :: .tail (allF S P ch B i M k).length 1 :: (j ++ ((AObj.cells [.int .i64 M.first, .list .no 1 (M.looks.map isv), .list .no 2 (M.nums.map Rng.av)]) :: j2)))) Q' := by
  obtain ⟨x, hx⟩ : ∃ x, (loopAt Tryd.f7 15) = x := ⟨_, rfl⟩
  rw [hx] at ih ⊢
  conv at hx => lhs; whnf
  subst hx
  simp only [upd, ins, Nat.reduceEqDiff, ↓reduceIte] at ih ⊢
  have hfe := hC.features
  have hls := hO.seen.1
  have hs0 := hO.seen.2
  have hps : P.size ≤ 4 := hO.plate.1
  have hch := hO.changed
  simp only at hls hs0 hch
  have hlk := hM.looks
  have hnl := hM.nums
  have hfi := hM.first
  have hk2 : k < M.nums.length := by omega
  have hll := hM.look _ (List.getElem_mem hk)
  have hnn := hM.num _ (List.getElem_mem hk2)
  have hkd : idx (M.looks.map isv) (k : Int) = some (isv M.looks[k]) := idx_nat hk
  have hkn : idx (M.nums.map Rng.av) (k : Int) = some M.nums[k].av := idx_nat hk2
  have hst : allF S P ch B i M (k + 1) = allF S P ch B i M k ++ if isTrue ⟨S, P, ch⟩ (madeOf i M k) then [madeOf i M k] else [] := by
    unfold allF
    rw [List.range_succ, List.map_append, ← List.append_assoc, List.filter_append]
    cases h : isTrue ⟨S, P, ch⟩ (madeOf i M k) <;> simp [h]
  have hlS : M.looks[k].length = S.length := by omega
  have hS4 : S.length ≤ 4 := by omega
  have hmk : lkF S.length (madeOf i M k) = M.looks[k] := lkF_made hk hlS hS4
  have hyr : (madeOf i M k).year = M.first + (k : Int) := rfl
  have hpr : (madeOf i M k).pair = [(i : Int), M.first + (k : Int)] := rfl
  have hg2 : M.nums.getD k default = M.nums[k] := by simp [List.getD, List.getElem?_eq_getElem hk2]
  have hnm : (madeOf i M k).nums = M.nums[k] := by unfold madeOf; simp only [hg2]
  have hit : isTrue ⟨S, P, ch⟩ (madeOf i M k) = (decide ((changedN M.looks[k] S : Int) ≤ ch) && fitsP M.nums[k] P) := by
    unfold isTrue
    have hg1 : M.looks.getD k [] = M.looks[k] := by simp [List.getD, List.getElem?_eq_getElem hk]
    have e1 : (madeOf i M k).look = [tg M.looks[k] 0, tg M.looks[k] 1, tg M.looks[k] 2, tg M.looks[k] 3] := by unfold madeOf Made.look; simp only [hg1]
    rw [hnm, e1, changed_pad hS4]
  have hFl : (allF S P ch B i M k).length ≤ 100 := by
    unfold allF
    refine Nat.le_trans (List.length_filter_le _ _) ?_
    rw [List.length_append, List.length_map, List.length_range]; omega
  have how : ownR P (madeOf i M k) = (numsP M.nums[k] P).foldl numS ⟨99999, -1⟩ := by unfold ownR; rw [hnm]
  rw [hst] at ih
  generalize allF S P ch B i M k = F at ih hFl ⊢
  have hnd : changedN M.looks[k] S = cntN (chg M.looks[k] S) S.length := rfl
  rw [hnd] at hit
  generalize madeOf i M k = m at ih hmk hyr hpr hnm hit how
  generalize M.looks[k] = lk at hkd hlS hmk hit hll
  generalize M.nums[k] = rg at hkn hnn hnm hit how
  obtain ⟨lo, hi'⟩ := rg
  simp only at hnn
  have hmay := may_eq (P := P) (x := ⟨lo, hi'⟩) (by simp only; omega)
  generalize hb0 : (P.toList == ({ data := #[] } : ByteArray).toList) = b0 at hmay
  clear hst hll hB
  have hisv : isv S = .list .no 1 (S.map (.int .i64)) := rfl
  have hisl : isv lk = .list .no 1 (lk.map (.int .i64)) := rfl
  generalize hyF : allY F = y at ih ⊢
  generalize hnF : allN P F = n at ih ⊢
  refine' ARun.cutP (α := Unit) (fun _ => True) (fun _ => [(2, AV.bool false), (4, .ptr a 0), (5, .ptr b 0), (11, .list (.own (σ.length + 2)) 1 ((F.map Made.pair).map isv)), (12, .list (.own (σ.length + 3)) 1 ((F.map (lkF S.length)).map isv)), (13, .ptr σ.length 0), (14, .ptr (σ.length + 1) 0), (15, .int .i64 i), (16, .ptr mm 0), (17, .int .i64 k), (18, .int .i64 0), (19, .bool b0), (20, .int .i64 0)]) (fun _ => σ ++ (.cells [.int .i64 y.lo, .int .i64 y.hi] :: .cells [.int .i64 n.lo, .int .i64 n.hi] :: .tail F.length 1 :: .tail F.length 1 :: (j ++ ((AObj.cells [.int .i64 M.first, .list .no 1 (M.looks.map isv), .list .no 2 (M.nums.map Rng.av)]) :: j2)))) (fun hG => ?way) ?rest
  case way =>
    cases b0
    · simp -implicitDefEqProofs (maxSteps := 2000000) (disch := omega) only [go_sem, reduceCtorEq, Nat.reduceAdd, Nat.reduceSub, Nat.reduceMul, Nat.reduceLT, Nat.reduceLeDiff, Nat.reduceEqDiff, Nat.reduceBEq, Int.reduceToNat, Int.reduceLT, Int.reduceLE, Int.reduceEq, Int.reduceNeg, Int.reduceAdd, Int.reduceSub, Int.reduceMul, ↓reduceIte, Int.reduceBEq, Int.reduceBNe, hgc, hgo, hgm, hb0]
      exact (hG () trivial).castS rfl (by simp [upd, ins, subF, lookA])
    · simp -implicitDefEqProofs (maxSteps := 2000000) (disch := omega) only [go_sem, reduceCtorEq, Nat.reduceAdd, Nat.reduceSub, Nat.reduceMul, Nat.reduceLT, Nat.reduceLeDiff, Nat.reduceEqDiff, Nat.reduceBEq, Int.reduceToNat, Int.reduceLT, Int.reduceLE, Int.reduceEq, Int.reduceNeg, Int.reduceAdd, Int.reduceSub, Int.reduceMul, ↓reduceIte, Int.reduceBEq, Int.reduceBNe, hgc, hgo, hgm, hb0]
      exact (hG () trivial).castS rfl (by simp [upd, ins, subF, lookA])
  case rest =>
  rintro ⟨⟩ _
  refine ARun.forG (Tryd.envOKV 398 Tryd.ordP fs60 fs60_ok) S.length (fun _ => True) (fun f => [(18, .int .i64 (cntN (chg lk S) f)), (20, .int .i64 f)]) (fun _ j3 => σ ++ (.cells [.int .i64 y.lo, .int .i64 y.hi] :: .cells [.int .i64 n.lo, .int .i64 n.hi] :: .tail F.length 1 :: .tail F.length 1 :: (j ++ ((AObj.cells [.int .i64 M.first, .list .no 1 (M.looks.map isv), .list .no 2 (M.nums.map Rng.av)]) :: (j2 ++ j3))))) [] (by kernel_rfl) (by repeat (first | exact hK | (rw [todoOK_cons, Bool.and_eq_true]; refine ⟨by kernel_rfl, ?_⟩))) (by simp) (by simp [upd, ins, subF, lookA, cntN]) trivial ?_ ?_
  · intro K2 Q2 hK2 f j3 hf _ ih2
    have hsi : idx (S.map (AV.int .i64)) (f : Int) = some (.int .i64 (tg S f)) := by rw [idx_nat hf, tgE hf]
    have hli : idx (lk.map (AV.int .i64)) (f : Int) = some (.int .i64 (tg lk f)) := by rw [idx_nat (by omega), tgE (by omega)]
    have hc : chg lk S f = (decide (0 < tg S f) && decide (tg S f ≠ tg lk f)) := rfl
    have hx0 : 0 ≤ tg S (f : Int) := by rw [tgE hf]; exact (hs0 _ (List.getElem_mem hf)).1
    rw [cntN_succ, hc] at ih2
    have hle := @cntN_le (chg lk S) f
    generalize cntN (chg lk S) f = q at ih2 hle ⊢
    generalize tg S (f : Int) = x at hsi ih2 hx0
    generalize tg lk (f : Int) = z at hli ih2
    clear hc ih hit how hmay
    by_cases r1 : x = 0
    · simp -implicitDefEqProofs (maxSteps := 2000000) (disch := omega) only [go_sem, reduceCtorEq, Nat.reduceAdd, Nat.reduceSub, Nat.reduceMul, Nat.reduceLT, Nat.reduceLeDiff, Nat.reduceEqDiff, Nat.reduceBEq, Int.reduceToNat, Int.reduceLT, Int.reduceLE, Int.reduceEq, Int.reduceNeg, Int.reduceAdd, Int.reduceSub, Int.reduceMul, ↓reduceIte, Int.reduceBEq, Int.reduceBNe, hgc, hgo, hgm, hisv, hisl, hsi, hli, hkd]
      exact (ih2 trivial j3).castS rfl (by simp [upd, ins, subF, lookA, r1])
    · have r3 : 0 < x := by omega
      by_cases r2 : x = z
      · simp -implicitDefEqProofs (maxSteps := 2000000) (disch := omega) only [go_sem, reduceCtorEq, Nat.reduceAdd, Nat.reduceSub, Nat.reduceMul, Nat.reduceLT, Nat.reduceLeDiff, Nat.reduceEqDiff, Nat.reduceBEq, Int.reduceToNat, Int.reduceLT, Int.reduceLE, Int.reduceEq, Int.reduceNeg, Int.reduceAdd, Int.reduceSub, Int.reduceMul, ↓reduceIte, Int.reduceBEq, Int.reduceBNe, hgc, hgo, hgm, hisv, hisl, hsi, hli, hkd]
        exact (ih2 trivial j3).castS rfl (by simp [upd, ins, subF, lookA, r2])
      · simp -implicitDefEqProofs (maxSteps := 2000000) (disch := omega) only [go_sem, reduceCtorEq, Nat.reduceAdd, Nat.reduceSub, Nat.reduceMul, Nat.reduceLT, Nat.reduceLeDiff, Nat.reduceEqDiff, Nat.reduceBEq, Int.reduceToNat, Int.reduceLT, Int.reduceLE, Int.reduceEq, Int.reduceNeg, Int.reduceAdd, Int.reduceSub, Int.reduceMul, ↓reduceIte, Int.reduceBEq, Int.reduceBNe, hgc, hgo, hgm, hisv, hisl, hsi, hli, hkd]
        exact (ih2 trivial j3).castS rfl (by simp [upd, ins, subF, lookA, r1, r2, r3])
  · intro j3 _
    have hcb := @cntN_le (chg lk S) S.length
    generalize cntN (chg lk S) S.length = q at hit hcb ⊢
    have hkn' : idx (M.nums.map Rng.av) (k : Int) = some (.agg [.int .i64 lo, .int .i64 hi']) := hkn
    simp -implicitDefEqProofs (maxSteps := 2000000) (disch := omega) only [go_sem, reduceCtorEq, Nat.reduceAdd, Nat.reduceSub, Nat.reduceMul, Nat.reduceLT, Nat.reduceLeDiff, Nat.reduceEqDiff, Nat.reduceBEq, Int.reduceToNat, Int.reduceLT, Int.reduceLE, Int.reduceEq, Int.reduceNeg, Int.reduceAdd, Int.reduceSub, Int.reduceMul, ↓reduceIte, Int.reduceBEq, Int.reduceBNe, hgc, hgo, hgm, hkn', Rng.av]
    have hpre : numsP ⟨lo, hi'⟩ P = ((List.range (hi' - lo + 1).toNat).map fun (k : Nat) => lo + (k : Int)).filter (readsP P) := rfl
    refine ARun.forG (Tryd.envOKV 398 Tryd.ordP fs60 fs60_ok) (hi' - lo + 1).toNat (fun _ => True) (fun q => [(19, .bool (b0 || !(((List.range q).map fun (k : Nat) => lo + (k : Int)).filter (readsP P)).isEmpty)), (22, .int .i64 (lo + q))]) (fun q j4 => σ ++ (.cells [.int .i64 y.lo, .int .i64 y.hi] :: .cells [.int .i64 n.lo, .int .i64 n.hi] :: .tail F.length 1 :: .tail F.length 1 :: (j ++ ((AObj.cells [.int .i64 M.first, .list .no 1 (M.looks.map isv), .list .no 2 (M.nums.map Rng.av)]) :: (j2 ++ (j3 ++ (.cells [.int .i64 ((((List.range q).map fun (k : Nat) => lo + (k : Int)).filter (readsP P)).foldl numS ⟨99999, -1⟩).lo, .int .i64 ((((List.range q).map fun (k : Nat) => lo + (k : Int)).filter (readsP P)).foldl numS ⟨99999, -1⟩).hi] :: j4))))))) [] (by kernel_rfl) (by repeat (first | exact hK | (rw [todoOK_cons, Bool.and_eq_true]; refine ⟨by kernel_rfl, ?_⟩))) (by simp) (by simp [upd, ins, subF, lookA]) trivial ?_ ?_
    · intro K2 Q2 hK2 q j4 hq _ ih2
      have hps2 : (((List.range (q + 1)).map fun (k : Nat) => lo + (k : Int)).filter (readsP P)) = (((List.range q).map fun (k : Nat) => lo + (k : Int)).filter (readsP P)) ++ if readsP P (lo + (q : Int)) then [lo + (q : Int)] else [] := by
        rw [List.range_succ, List.map_append, List.filter_append]
        cases h : readsP P (lo + (q : Int)) <;> simp [h]
      rw [hps2] at ih2
      generalize ((List.range q).map fun (k : Nat) => lo + (k : Int)).filter (readsP P) = D at ih2 ⊢
      clear hpre hps2 hit how hmay ih
      cases hr : readsP P (lo + (q : Int))
      · rw [hr, if_neg (by simp), List.append_nil] at ih2
        simp -implicitDefEqProofs (maxSteps := 2000000) (disch := omega) only [go_sem, reduceCtorEq, Nat.reduceAdd, Nat.reduceSub, Nat.reduceMul, Nat.reduceLT, Nat.reduceLeDiff, Nat.reduceEqDiff, Nat.reduceBEq, Int.reduceToNat, Int.reduceLT, Int.reduceLE, Int.reduceEq, Int.reduceNeg, Int.reduceAdd, Int.reduceSub, Int.reduceMul, ↓reduceIte, Int.reduceBEq, Int.reduceBNe, hgc, hgo, hgm, hkn', hr]
        exact (ih2 trivial j4).castS rfl (by simp [upd, ins, subF, lookA, Int.add_assoc])
      · rw [hr, if_pos rfl, List.foldl_append] at ih2
        have hne : (D ++ [lo + (q : Int)]).isEmpty = false := by simp
        rw [hne] at ih2
        generalize D.foldl numS ⟨99999, -1⟩ = w at ih2 ⊢
        simp -implicitDefEqProofs (maxSteps := 2000000) (disch := omega) only [go_sem, reduceCtorEq, Nat.reduceAdd, Nat.reduceSub, Nat.reduceMul, Nat.reduceLT, Nat.reduceLeDiff, Nat.reduceEqDiff, Nat.reduceBEq, Int.reduceToNat, Int.reduceLT, Int.reduceLE, Int.reduceEq, Int.reduceNeg, Int.reduceAdd, Int.reduceSub, Int.reduceMul, ↓reduceIte, Int.reduceBEq, Int.reduceBNe, hgc, hgo, hgm, hkn', hr, minA, minL, maxA, maxL, Rng.av]
        exact (ih2 trivial j4).castS (by simp [numS]) (by simp [upd, ins, subF, lookA, Int.add_assoc])
    · intro j4 _
      rw [← hpre, ← how]
      have hmay' : (b0 || !(numsP ⟨lo, hi'⟩ P).isEmpty) = fitsP ⟨lo, hi'⟩ P := hmay
      rw [hmay']
      rw [hit] at ih
      clear hpre hmay hmay' how hit
      generalize hw2 : ownR P m = w at ih ⊢
      cases hft : fitsP ⟨lo, hi'⟩ P
      · rw [hft, Bool.and_false, if_neg (by simp), List.append_nil, hyF, hnF] at ih
        simp -implicitDefEqProofs (maxSteps := 2000000) (disch := omega) only [go_sem, reduceCtorEq, Nat.reduceAdd, Nat.reduceSub, Nat.reduceMul, Nat.reduceLT, Nat.reduceLeDiff, Nat.reduceEqDiff, Nat.reduceBEq, Int.reduceToNat, Int.reduceLT, Int.reduceLE, Int.reduceEq, Int.reduceNeg, Int.reduceAdd, Int.reduceSub, Int.reduceMul, ↓reduceIte, Int.reduceBEq, Int.reduceBNe, hgc, hgo, hgm, hkn', Rng.av]
        exact (ih (j2 ++ (j3 ++ (.cells [.int .i64 w.lo, .int .i64 w.hi] :: j4)))).castS (by simp) (by simp [upd, ins, subF, lookA])
      · rw [hft, Bool.and_true] at ih
        by_cases hcc : (q : Int) ≤ ch
        · rw [decide_eq_true hcc, if_pos rfl, allY_add, allN_add, hw2, hyF, hnF, hyr, List.map_append, List.map_append, List.map_append, List.map_append, List.length_append] at ih
          simp only [List.map_cons, List.map_nil, hmk, hpr, List.length_cons, List.length_nil, Nat.zero_add] at ih
          simp -implicitDefEqProofs (maxSteps := 2000000) (disch := omega) only [go_sem, reduceCtorEq, Nat.reduceAdd, Nat.reduceSub, Nat.reduceMul, Nat.reduceLT, Nat.reduceLeDiff, Nat.reduceEqDiff, Nat.reduceBEq, Int.reduceToNat, Int.reduceLT, Int.reduceLE, Int.reduceEq, Int.reduceNeg, Int.reduceAdd, Int.reduceSub, Int.reduceMul, ↓reduceIte, Int.reduceBEq, Int.reduceBNe, hgc, hgo, hgm, hkn', hkd, minA, minL, maxA, maxL, Rng.av]
          exact (ih (j2 ++ (j3 ++ (.cells [.int .i64 w.lo, .int .i64 w.hi] :: j4)))).castS (by simp [numS, wideR]) (by simp [upd, ins, subF, lookA, isv])
        · rw [decide_eq_false hcc, if_neg (by simp), List.append_nil, hyF, hnF] at ih
          simp -implicitDefEqProofs (maxSteps := 2000000) (disch := omega) only [go_sem, reduceCtorEq, Nat.reduceAdd, Nat.reduceSub, Nat.reduceMul, Nat.reduceLT, Nat.reduceLeDiff, Nat.reduceEqDiff, Nat.reduceBEq, Int.reduceToNat, Int.reduceLT, Int.reduceLE, Int.reduceEq, Int.reduceNeg, Int.reduceAdd, Int.reduceSub, Int.reduceMul, ↓reduceIte, Int.reduceBEq, Int.reduceBNe, hgc, hgo, hgm, hkn', Rng.av]
          exact (ih (j2 ++ (j3 ++ (.cells [.int .i64 w.lo, .int .i64 w.hi] :: j4)))).castS (by simp) (by simp [upd, ins, subF, lookA])
end Go.Proofs
set_option linter.unusedSimpArgs false
set_option linter.unusedVariables false
set_option maxRecDepth 100000
namespace Go.Proofs
open Go Go.Mu

theorem vdZ_nat {n m : Nat} : vdZ (n : Int) (m : Int) = vdN n m := by
  unfold vdZ vdN
  by_cases h1 : n = m
  · subst h1; simp
  · rw [if_neg (by omega), if_neg h1]
    by_cases h2 : n = 0
    · subst h2; simp
    · rw [if_neg (by omega), if_neg h2]
set_option maxHeartbeats 400000000 in
theorem allA_round {c : Cat} {τ : List AObj} {S : List Int} {P : ByteArray} {ch : Int} {a b : Nat} {L : List Made} {A : List Int} {t1 : Tok} (hC : OkC c) (hO : OkO c ⟨S, P, ch⟩) (hL : L.length ≤ 16) (hAl : A.length = S.length)
    (hA : ∀ f : Nat, f < S.length → tg A f = vdN (altN (tg S f) f L) L.length)
    (hkn : ∀ f : Nat, f < S.length → knownFM c ⟨S, P, ch⟩ f = (dueL L f 3, 0))
    (hgc : ∀ l, hget (τ ++ l) a = some (AObj.cells [.int .i64 c.features, .list .no 3 (c.models.map Model.av)])) (hgo : ∀ l, hget (τ ++ l) b = some (AObj.cells [isv S, .str P, .int .i64 ch]))
    (K : List Item) (Q' : Post) (hK : todoOK (Tryd.Ev 398 Tryd.ordP fs60) K = true) (i : Nat) (j : List AObj) (hi : i < S.length)
    (ih : ∀ j' : List AObj, ARun (Tryd.Ev 398 Tryd.ordP fs60) none (.inLoop (loopAt Tryd.f7 43) :: K) ⟨Tryd.kp7, [], upd [(2, AV.bool false), (4, .ptr a 0), (5, .ptr b 0), (12, .list t1 1 ((L.map (lkF S.length)).map isv)), (29, .list .no 1 (A.map (.int .i64))), (33, .int .i64 0)] [(33, .int .i64 ((i + 1 : Nat) : Int))]⟩ (τ ++ j') Q') :
    ev (Tryd.Ev 398 Tryd.ordP fs60) none 100000 (.code (loopAt Tryd.f7 43) :: .inLoop (loopAt Tryd.f7 43) :: K) ⟨Tryd.kp7, [], upd [(2, AV.bool false), (4, .ptr a 0), (5, .ptr b 0), (12, .list t1 1 ((L.map (lkF S.length)).map isv)), (29, .list .no 1 (A.map (.int .i64))), (33, .int .i64 0)] [(33, .int .i64 (i : Int))]⟩ (τ ++ j) Q' := by
  obtain ⟨x, hx⟩ : ∃ x, (loopAt Tryd.f7 43) = x := ⟨_, rfl⟩
  rw [hx] at ih ⊢
  conv at hx => lhs; whnf
  subst hx
  simp only [upd, ins, Nat.reduceEqDiff, ↓reduceIte] at ih ⊢
  have hfe := hC.features
  have hls := hO.seen.1
  have hs0 := hO.seen.2
  simp only at hls hs0
  have hcat := okCat_of hC
  have hold := okOld_of hC hO
  have hS4 : S.length ≤ 4 := by omega
  have hki := hkn i hi
  have hAi := hA i hi
  have hidA : idx (A.map (AV.int .i64)) (i : Int) = some (.int .i64 (tg A i)) := by rw [idx_nat (by omega), tgE (by omega)]
  rw [hAi] at hidA
  have hsi : idx (S.map (AV.int .i64)) (i : Int) = some (.int .i64 (tg S i)) := by rw [idx_nat hi, tgE hi]
  have hx0 : 0 ≤ tg S (i : Int) := by rw [tgE hi]; exact (hs0 _ (List.getElem_mem hi)).1
  have hlk : ∀ q : Nat, q < L.length → idx ((L.map (lkF S.length)).map isv) (q : Int) = some (isv (lkF S.length (L.getD q default))) := fun q hq => by
    have h2 : q < (L.map (lkF S.length)).length := by rw [List.length_map]; exact hq
    rw [idx_nat h2, List.getElem_map]; simp [List.getD, List.getElem?_eq_getElem hq]
  have hlv : ∀ (q : Nat) (hq : q < L.length), idx ((lkF S.length (L.getD q default)).map (AV.int .i64)) (i : Int) = some (.int .i64 (tg L[q].look i)) := fun q hq => by
    have hn := lkF_len (m := L.getD q default) hS4
    rw [idx_nat (by omega), ← tgE (by omega), lkF_tg hi hS4]; simp [List.getD, List.getElem?_eq_getElem hq]
  have hlen : ((L.map (lkF S.length)).map isv).length = L.length := by simp
  have hlen2 : (L.map (lkF S.length)).length = L.length := by simp
  have hisv : isv S = .list .no 1 (S.map (.int .i64)) := rfl
  have hisl : ∀ l : List Int, isv l = .list .no 1 (l.map (.int .i64)) := fun _ => rfl
  clear hkn hA hAi
  generalize hf : (i : Int) = f at hki hidA hsi hx0 hlk hlv
  generalize tg S f = s at hsi hx0 hidA
  simp -implicitDefEqProofs (maxSteps := 2000000) (disch := omega) only [go_sem, reduceCtorEq, Nat.reduceAdd, Nat.reduceSub, Nat.reduceMul, Nat.reduceLT, Nat.reduceLeDiff, Nat.reduceEqDiff, Nat.reduceBEq, Int.reduceToNat, Int.reduceLT, Int.reduceLE, Int.reduceEq, Int.reduceNeg, Int.reduceAdd, Int.reduceSub, Int.reduceMul, ↓reduceIte, Int.reduceBEq, Int.reduceBNe, hgc, hgo]
  refine ARun.ghost 34 1 (sz0 := 0) rfl (by simp [lookA]) ?_
  simp only [ins, ↓reduceIte, List.append_assoc, List.cons_append, List.nil_append, List.length_append, List.length_cons, List.length_nil, Nat.zero_add, Nat.reduceEqDiff]
  refine ARun.forG (Tryd.envOKV 398 Tryd.ordP fs60 fs60_ok) 3 (fun _ => True) (fun v => [(34, .list (.own (τ.length + j.length)) 1 ((dueL L f v).map (.int .i64))), (36, .int .i64 ((v : Int) + 1))]) (fun v l => τ ++ (j ++ (.tail (dueL L f v).length 1 :: l))) [] (by kernel_rfl) (by repeat (first | exact hK | (rw [todoOK_cons, Bool.and_eq_true]; refine ⟨by kernel_rfl, ?_⟩))) (by simp [dueL]) (by simp [upd, ins, subF, lookA, dueL]) trivial ?_ ?_
  · intro K2 Q2 hK2 v l hv _ ih2
    have hdl := dueL_len (L := L) (f := f) (n := v)
    have hdle := dueL_le (L := L) (f := f) (n := v)
    rw [dueL_succ] at ih2
    generalize dueL L f v = D at ih2 hdl hdle ⊢
    have hpn := place_new hdle
    have hpo := place_old (D := D) (v := (v : Int) + 1)
    clear ih hdle hki hidA
    simp -implicitDefEqProofs (maxSteps := 2000000) (disch := omega) only [go_sem, reduceCtorEq, Nat.reduceAdd, Nat.reduceSub, Nat.reduceMul, Nat.reduceLT, Nat.reduceLeDiff, Nat.reduceEqDiff, Nat.reduceBEq, Int.reduceToNat, Int.reduceLT, Int.reduceLE, Int.reduceEq, Int.reduceNeg, Int.reduceAdd, Int.reduceSub, Int.reduceMul, ↓reduceIte, Int.reduceBEq, Int.reduceBNe, hgc, hgo]
    refine ARun.forG (Tryd.envOKV 398 Tryd.ordP fs60 fs60_ok) L.length (fun _ => True) (fun q => [(34, .list (.own (τ.length + j.length)) 1 ((D ++ if anyF (L.take q) f ((v : Int) + 1) then [(v : Int) + 1] else []).map (.int .i64))), (37, .int .i64 q)]) (fun q l2 => τ ++ (j ++ (.tail (D ++ if anyF (L.take q) f ((v : Int) + 1) then [(v : Int) + 1] else []).length 1 :: (l ++ l2)))) [] (by kernel_rfl) (by repeat (first | exact hK2 | (rw [todoOK_cons, Bool.and_eq_true]; refine ⟨by kernel_rfl, ?_⟩))) (by simp [anyF]) (by simp [upd, ins, subF, lookA, anyF]) trivial ?_ ?_
    · intro K3 Q3 hK3 q l2 hq _ ih3
      have hst : anyF (L.take (q + 1)) f ((v : Int) + 1) = (anyF (L.take q) f ((v : Int) + 1) || decide (tg L[q].look f = (v : Int) + 1)) := by
        unfold anyF; rw [List.take_succ_eq_append_getElem hq, List.any_append]; simp
      have h1 := hlk q hq
      have h2 := hlv q hq
      rw [hst] at ih3
      clear hst hlk hlv ih2
      generalize lkF S.length (L.getD q default) = r at h1 h2
      generalize tg L[q].look f = z at h2 ih3
      cases hb : anyF (L.take q) f ((v : Int) + 1)
      · rw [hb, Bool.false_or] at ih3
        simp only [Bool.false_eq_true, if_false, List.append_nil]
        by_cases hz : z = (v : Int) + 1
        · rw [decide_eq_true hz, if_pos rfl] at ih3
          simp -implicitDefEqProofs (maxSteps := 2000000) (disch := omega) only [go_sem, reduceCtorEq, Nat.reduceAdd, Nat.reduceSub, Nat.reduceMul, Nat.reduceLT, Nat.reduceLeDiff, Nat.reduceEqDiff, Nat.reduceBEq, Int.reduceToNat, Int.reduceLT, Int.reduceLE, Int.reduceEq, Int.reduceNeg, Int.reduceAdd, Int.reduceSub, Int.reduceMul, ↓reduceIte, Int.reduceBEq, Int.reduceBNe, hgc, hgo, hlen, hlen2, h1, h2, hisl, hpn, hf]
          exact (ih3 trivial l2).castS (by simp) (by simp [upd, ins, subF, lookA])
        · rw [decide_eq_false hz, if_neg (by simp), List.append_nil] at ih3
          simp -implicitDefEqProofs (maxSteps := 2000000) (disch := omega) only [go_sem, reduceCtorEq, Nat.reduceAdd, Nat.reduceSub, Nat.reduceMul, Nat.reduceLT, Nat.reduceLeDiff, Nat.reduceEqDiff, Nat.reduceBEq, Int.reduceToNat, Int.reduceLT, Int.reduceLE, Int.reduceEq, Int.reduceNeg, Int.reduceAdd, Int.reduceSub, Int.reduceMul, ↓reduceIte, Int.reduceBEq, Int.reduceBNe, hgc, hgo, hlen, hlen2, h1, h2, hisl, hpn, hf]
          exact (ih3 trivial l2).castS (by simp) (by simp [upd, ins, subF, lookA])
      · rw [hb, Bool.true_or, if_pos rfl] at ih3
        simp only [if_true]
        generalize hpq : placeL (D ++ [(v : Int) + 1]) ((v : Int) + 1) = pq at hpo
        have hdl1 : (D ++ [(v : Int) + 1]).length ≤ 4294967296 := by simp; omega
        by_cases hz : z = (v : Int) + 1
        · simp -implicitDefEqProofs (maxSteps := 2000000) (disch := omega) only [go_sem, reduceCtorEq, Nat.reduceAdd, Nat.reduceSub, Nat.reduceMul, Nat.reduceLT, Nat.reduceLeDiff, Nat.reduceEqDiff, Nat.reduceBEq, Int.reduceToNat, Int.reduceLT, Int.reduceLE, Int.reduceEq, Int.reduceNeg, Int.reduceAdd, Int.reduceSub, Int.reduceMul, ↓reduceIte, Int.reduceBEq, Int.reduceBNe, hgc, hgo, hlen, hlen2, h1, h2, hisl, hpq, hdl1, hf]
          exact (ih3 trivial l2).castS (by simp) (by simp [upd, ins, subF, lookA])
        · simp -implicitDefEqProofs (maxSteps := 2000000) (disch := omega) only [go_sem, reduceCtorEq, Nat.reduceAdd, Nat.reduceSub, Nat.reduceMul, Nat.reduceLT, Nat.reduceLeDiff, Nat.reduceEqDiff, Nat.reduceBEq, Int.reduceToNat, Int.reduceLT, Int.reduceLE, Int.reduceEq, Int.reduceNeg, Int.reduceAdd, Int.reduceSub, Int.reduceMul, ↓reduceIte, Int.reduceBEq, Int.reduceBNe, hgc, hgo, hlen, hlen2, h1, h2, hisl, hpq, hdl1, hf]
          exact (ih3 trivial l2).castS (by simp) (by simp [upd, ins, subF, lookA])
    · intro l2 _
      rw [List.take_length]
      simp -implicitDefEqProofs (maxSteps := 2000000) (disch := omega) only [go_sem, reduceCtorEq, Nat.reduceAdd, Nat.reduceSub, Nat.reduceMul, Nat.reduceLT, Nat.reduceLeDiff, Nat.reduceEqDiff, Nat.reduceBEq, Int.reduceToNat, Int.reduceLT, Int.reduceLE, Int.reduceEq, Int.reduceNeg, Int.reduceAdd, Int.reduceSub, Int.reduceMul, ↓reduceIte, Int.reduceBEq, Int.reduceBNe, hgc, hgo, hlen, hlen2]
      exact (ih2 trivial (l ++ l2)).castS (by simp) (by simp [upd, ins, subF, lookA])
  · intro l _
    have hdl := dueL_len (L := L) (f := f) (n := 3)
    generalize dueL L f 3 = D at hdl hki ⊢
    simp -implicitDefEqProofs (maxSteps := 2000000) (disch := omega) only [go_sem, reduceCtorEq, Nat.reduceAdd, Nat.reduceSub, Nat.reduceMul, Nat.reduceLT, Nat.reduceLeDiff, Nat.reduceEqDiff, Nat.reduceBEq, Int.reduceToNat, Int.reduceLT, Int.reduceLE, Int.reduceEq, Int.reduceNeg, Int.reduceAdd, Int.reduceSub, Int.reduceMul, ↓reduceIte, Int.reduceBEq, Int.reduceBNe, hgc, hgo]
    refine ARun.forG (Tryd.envOKV 398 Tryd.ordP fs60 fs60_ok) L.length (fun _ => True) (fun q => [(35, .int .i64 (altN s i (L.take q))), (38, .int .i64 q)]) (fun q l2 => τ ++ (j ++ (.tail D.length 1 :: (l ++ l2)))) [] (by kernel_rfl) (by repeat (first | exact hK | (rw [todoOK_cons, Bool.and_eq_true]; refine ⟨by kernel_rfl, ?_⟩))) (by simp) (by simp [upd, ins, subF, lookA, altN]) trivial ?_ ?_
    · intro K3 Q3 hK3 q l2 hq _ ih3
      have hst : altN s i (L.take (q + 1)) = altN s i (L.take q) + if (0 < s ∧ s ≠ tg L[q].look f) then 1 else 0 := by
        unfold altN
        rw [List.take_succ_eq_append_getElem hq, List.filter_append, List.length_append, hf]
        by_cases h1 : 0 < s <;> by_cases h2 : s = tg L[q].look f <;> simp [h1, h2]
      have h1 := hlk q hq
      have h2 := hlv q hq
      have hle := @altN_le s i (L.take q)
      rw [List.length_take] at hle
      rw [hst] at ih3
      clear hst hlk hlv ih hki hidA
      generalize altN s i (L.take q) = n at ih3 hle ⊢
      generalize lkF S.length (L.getD q default) = r at h1 h2
      generalize tg L[q].look f = z at h2 ih3
      by_cases r1 : s = 0
      · simp -implicitDefEqProofs (maxSteps := 2000000) (disch := omega) only [go_sem, reduceCtorEq, Nat.reduceAdd, Nat.reduceSub, Nat.reduceMul, Nat.reduceLT, Nat.reduceLeDiff, Nat.reduceEqDiff, Nat.reduceBEq, Int.reduceToNat, Int.reduceLT, Int.reduceLE, Int.reduceEq, Int.reduceNeg, Int.reduceAdd, Int.reduceSub, Int.reduceMul, ↓reduceIte, Int.reduceBEq, Int.reduceBNe, hgc, hgo, hlen, hlen2, h1, h2, hisl, hsi, hf]
        exact (ih3 trivial l2).castS (by simp) (by simp [upd, ins, subF, lookA, r1])
      · have r3 : 0 < s := by omega
        by_cases r2 : s = z
        · have r2' : z = s := r2.symm
          simp -implicitDefEqProofs (maxSteps := 2000000) (disch := omega) only [go_sem, reduceCtorEq, Nat.reduceAdd, Nat.reduceSub, Nat.reduceMul, Nat.reduceLT, Nat.reduceLeDiff, Nat.reduceEqDiff, Nat.reduceBEq, Int.reduceToNat, Int.reduceLT, Int.reduceLE, Int.reduceEq, Int.reduceNeg, Int.reduceAdd, Int.reduceSub, Int.reduceMul, ↓reduceIte, Int.reduceBEq, Int.reduceBNe, hgc, hgo, hlen, hlen2, h1, h2, hisl, hsi, hf]
          exact (ih3 trivial l2).castS (by simp) (by simp [upd, ins, subF, lookA, r2])
        · have r2' : ¬ z = s := fun h => r2 h.symm
          simp -implicitDefEqProofs (maxSteps := 2000000) (disch := omega) only [go_sem, reduceCtorEq, Nat.reduceAdd, Nat.reduceSub, Nat.reduceMul, Nat.reduceLT, Nat.reduceLeDiff, Nat.reduceEqDiff, Nat.reduceBEq, Int.reduceToNat, Int.reduceLT, Int.reduceLE, Int.reduceEq, Int.reduceNeg, Int.reduceAdd, Int.reduceSub, Int.reduceMul, ↓reduceIte, Int.reduceBEq, Int.reduceBNe, hgc, hgo, hlen, hlen2, h1, h2, hisl, hsi, hf]
          exact (ih3 trivial l2).castS (by simp) (by simp [upd, ins, subF, lookA, r1, r2, r3])
    · intro l2 _
      rw [List.take_length]
      have hle := @altN_le s i L
      have hvd := vdZ_nat (n := altN s i L) (m := L.length)
      rw [← hvd] at hidA
      generalize altN s i L = n at hle hidA ⊢
      have hl3 : D.length ≤ 4294967296 := by omega
      have hf0 : -4294967296 ≤ c.features := by omega
      have hf1 : c.features ≤ 4294967296 := by omega
      simp -implicitDefEqProofs (maxSteps := 2000000) (disch := omega) only [go_sem, reduceCtorEq, Nat.reduceAdd, Nat.reduceSub, Nat.reduceMul, Nat.reduceLT, Nat.reduceLeDiff, Nat.reduceEqDiff, Nat.reduceBEq, Int.reduceToNat, Int.reduceLT, Int.reduceLE, Int.reduceEq, Int.reduceNeg, Int.reduceAdd, Int.reduceSub, Int.reduceMul, ↓reduceIte, Int.reduceBEq, Int.reduceBNe, hgc, hgo, hlen, hlen2, hisl, hidA, hki, hf, Cat_eta, Old_eta, hcat, hold, hl3]
      exact (ih (j ++ (.tail D.length 1 :: (l ++ l2)))).castS (by simp) (by simp [upd, ins, subF, lookA, hf])
end Go.Proofs
