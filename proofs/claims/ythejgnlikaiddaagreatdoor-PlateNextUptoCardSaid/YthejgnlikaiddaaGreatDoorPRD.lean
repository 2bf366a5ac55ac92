/- Texts of a proof: lemmas. -/
import Derived.Test.YthejgnlikaiddaaGreatDoorPRC
import Derived.Test.YthejgnlikaiddaaGreatDoorPRW
import Derived.Test.YthejgnlikaiddaaGreatDoorV1
import Derived.Test.YthejgnlikaiddaaGreatDoorMu3
set_option linter.unusedSimpArgs false
set_option linter.unusedVariables false
set_option maxRecDepth 100000
namespace Go.Proofs
open Go Go.Mu

def Tryz.ordT : Nat → List Nat × List (Nat × List Nat)
  | 9 => ([0, 1, 0, 4, 0, 28, 60, 127, 255, 511, 511, 0, 3071, 8191], [(0, []), (1, []), (2, []), (3, []), (4, []), (5, []), (6, []), (7, [7]), (8, []), (9, []), (10, []), (11, []), (12, []), (13, [])])
  | 10 => ([0, 1, 3, 3, 11, 3, 59, 123, 255, 3, 515, 2047, 4095], [(0, []), (1, []), (2, []), (3, []), (4, []), (5, []), (6, []), (7, []), (8, [8]), (9, []), (10, []), (11, []), (12, [])])
  | _ => ([], [])
theorem Tryz.ordT_9 : Tryz.ordT 9 = ([0, 1, 0, 4, 0, 28, 60, 127, 255, 511, 511, 0, 3071, 8191], [(0, []), (1, []), (2, []), (3, []), (4, []), (5, []), (6, []), (7, [7]), (8, []), (9, []), (10, []), (11, []), (12, []), (13, [])]) := rfl
theorem Tryz.ordT_10 : Tryz.ordT 10 = ([0, 1, 3, 3, 11, 3, 59, 123, 255, 3, 515, 2047, 4095], [(0, []), (1, []), (2, []), (3, []), (4, []), (5, []), (6, []), (7, []), (8, [8]), (9, []), (10, []), (11, []), (12, [])]) := rfl
attribute [go_sem] Tryz.ordT_9 Tryz.ordT_10
def prT (m : Made) : List Int := [m.model, m.year]
set_option maxHeartbeats 40000000 in
theorem rtruths_p (c : Cat) (o : Old) (hC : OkC c) (hO : OkO c o) : PureV Tryz.prog 76 [c.av, o.av] (.list .no 1 (((truthsM c o).map prT).map isv)) := by
  refine PureV.of_ev (E := Tryz.Ev 64 Tryz.ordT fs107) (Tryz.envOKV 64 Tryz.ordT fs107 fs107_ok) (.map fun x _ => .cells_list (Plain.ints (xs := x))) Tryz.kp76 Tryz.func76 rfl (by kernel_rfl) (by simp [Tryz.Ev]) (Callable.of Tryz.func76 (by kernel_rfl) (by kernel_rfl)) (by kernel_rfl) ?_
  intro σ
  simp only [Cat.av, Old.av]
  have hmods := hC.models
  have hfe := hC.features
  have hso := hO.seen
  have hs4 : o.seen.length ≤ 4 := by have := hso.1; omega
  have hps : o.plate.size ≤ 4 := hO.plate.1
  have hs0 : (∀ x ∈ o.seen, 0 ≤ x) = True := eq_true fun x hx => (hso.2 x hx).1
  have hch := hO.changed
  simp -implicitDefEqProofs (maxSteps := 2000000) (disch := omega) only [go_sem, reduceCtorEq, Nat.reduceAdd, Nat.reduceSub, Nat.reduceMul, Nat.reduceLT, Nat.reduceLeDiff, Nat.reduceEqDiff, Nat.reduceBEq, Int.reduceToNat, Int.reduceLT, Int.reduceLE, Int.reduceEq, Int.reduceNeg, Int.reduceAdd, Int.reduceSub, Int.reduceMul, ↓reduceIte, Int.reduceBEq, Int.reduceBNe]
  refine ARun.ghost 5 1 (sz0 := 0) rfl (by simp [lookA]) ?_
  simp only [ins, ↓reduceIte, List.append_assoc, List.cons_append, List.nil_append, List.length_append, List.length_cons, List.length_nil, Nat.zero_add, Nat.reduceEqDiff]
  let D (i : Nat) : List Made := (List.range i).flatMap fun (i : Nat) => madesOf i (c.models.getD i default)
  have hD0 : D 0 = [] := rfl
  have hDs : ∀ i, D (i + 1) = D i ++ madesOf i (c.models.getD i default) := fun i => by
    show (List.range (i + 1)).flatMap _ = _
    rw [List.range_succ, List.flatMap_append]; simp [D]
  have hDn : allMade c = D c.models.length := rfl
  have hDl : ∀ i, i ≤ c.models.length → (D i).length ≤ 4 * i := fun i => by
    induction i with
    | zero => intro _; rw [hD0]; simp
    | succ i ih =>
      intro hi
      rw [hDs, List.length_append]
      have hgd : c.models.getD i default = c.models[i] := by simp [List.getD, List.getElem?_eq_getElem (show i < c.models.length by omega)]
      have h1 : (madesOf i (c.models.getD i default)).length ≤ 4 := by
        rw [hgd]; unfold madesOf; rw [List.length_map, List.length_range]; exact (hC.model _ (List.getElem_mem _)).looks.2
      have := ih (by omega)
      omega
  have hT : truthsM c o = (D c.models.length).filter (isTrue o) := rfl
  rw [hT]
  clear_value D
  refine ARun.forG (Tryz.envOKV 64 Tryz.ordT fs107 fs107_ok) c.models.length (fun _ => True) (fun i => [(5, .list (.own (σ.length + 2)) 1 ((((D i).filter (isTrue o)).map prT).map isv)), (6, .int .i64 i)]) (fun i j => σ ++ (.cells [.int .i64 c.features, .list .no 3 (c.models.map Model.av)] :: .cells [isv o.seen, .str o.plate, .int .i64 o.changed] :: .tail ((D i).filter (isTrue o)).length 1 :: j)) [] (by kernel_rfl) (by kernel_rfl) (by simp [hD0]) (by simp [upd, ins, subF, lookA, hD0]) trivial ?_ ?_
  · intro K Q' hK i j hi _ ih
    have hgd : c.models.getD i default = c.models[i] := by simp [List.getD, List.getElem?_eq_getElem hi]
    rw [hDs, hgd] at ih
    have hDi := hDl i (by omega)
    have hM := hC.model _ (List.getElem_mem hi)
    have hid : idx (c.models.map Model.av) (i : Int) = some (c.models[i]).av := idx_nat hi
    have hmav : (c.models[i]).av = .agg [.int .i64 (c.models[i]).first, .list .no 1 ((c.models[i]).looks.map isv), .list .no 2 ((c.models[i]).nums.map Rng.av)] := rfl
    generalize D i = B at ih hDi ⊢
    generalize c.models[i] = M at hM hid hmav ih
    have hlk := hM.looks
    have hnm := hM.nums
    have hfi := hM.first
    clear hgd hDs hDl hT hDn hD0
    simp -implicitDefEqProofs (maxSteps := 2000000) (disch := omega) only [go_sem, reduceCtorEq, Nat.reduceAdd, Nat.reduceSub, Nat.reduceMul, Nat.reduceLT, Nat.reduceLeDiff, Nat.reduceEqDiff, Nat.reduceBEq, Int.reduceToNat, Int.reduceLT, Int.reduceLE, Int.reduceEq, Int.reduceNeg, Int.reduceAdd, Int.reduceSub, Int.reduceMul, ↓reduceIte, Int.reduceBEq, Int.reduceBNe, hid, hmav]
    refine ARun.forG (Tryz.envOKV 64 Tryz.ordT fs107 fs107_ok) M.looks.length (fun _ => True) (fun k => [(5, .list (.own (σ.length + 2)) 1 ((((B ++ (List.range k).map (madeOf i M)).filter (isTrue o)).map prT).map isv)), (8, .int .i64 k)]) (fun k j2 => σ ++ (.cells [.int .i64 c.features, .list .no 3 (c.models.map Model.av)] :: .cells [isv o.seen, .str o.plate, .int .i64 o.changed] :: .tail ((B ++ (List.range k).map (madeOf i M)).filter (isTrue o)).length 1 :: (j ++ (.cells [.int .i64 M.first, .list .no 1 (M.looks.map isv), .list .no 2 (M.nums.map Rng.av)] :: j2)))) [] (by kernel_rfl) (by repeat (first | exact hK | (rw [todoOK_cons, Bool.and_eq_true]; refine ⟨by kernel_rfl, ?_⟩))) (by simp) (by simp [upd, ins, subF, lookA]) trivial ?_ ?_
    · intro K2 Q2 hK2 k j2 hk _ ih2
      have hk2 : k < M.nums.length := by omega
      have hkd : idx (M.looks.map isv) (k : Int) = some (isv M.looks[k]) := idx_nat hk
      have hkn : idx (M.nums.map Rng.av) (k : Int) = some (M.nums[k]).av := idx_nat hk2
      have hll := hM.look _ (List.getElem_mem hk)
      have hnn := hM.num _ (List.getElem_mem hk2)
      have hg1 : M.looks.getD k [] = M.looks[k] := by simp [List.getD, List.getElem?_eq_getElem hk]
      have hg2 : M.nums.getD k default = M.nums[k] := by simp [List.getD, List.getElem?_eq_getElem hk2]
      have hit : isTrue o (madeOf i M k) = (decide ((changedN M.looks[k] o.seen : Int) ≤ o.changed) && fitsP M.nums[k] o.plate) := by
        unfold isTrue
        have e1 : (madeOf i M k).look = [tg M.looks[k] 0, tg M.looks[k] 1, tg M.looks[k] 2, tg M.looks[k] 3] := by unfold madeOf Made.look; simp only [hg1]
        have e2 : (madeOf i M k).nums = M.nums[k] := by unfold madeOf; simp only [hg2]
        rw [e1, e2]
        congr 2
        have : changedN [tg M.looks[k] 0, tg M.looks[k] 1, tg M.looks[k] 2, tg M.looks[k] 3] o.seen = changedN M.looks[k] o.seen := by
          unfold changedN
          congr 1
          refine List.filter_congr fun q hq => ?_
          rw [List.mem_range] at hq
          unfold chg
          have : tg [tg M.looks[k] 0, tg M.looks[k] 1, tg M.looks[k] 2, tg M.looks[k] 3] (q : Int) = tg M.looks[k] q := by
            have : q = 0 ∨ q = 1 ∨ q = 2 ∨ q = 3 := by omega
            rcases this with rfl | rfl | rfl | rfl <;> rfl
          rw [this]
        rw [this]
      have hpr : prT (madeOf i M k) = [(i : Int), M.first + k] := rfl
      have hst : ((B ++ (List.range (k + 1)).map (madeOf i M)).filter (isTrue o)) = ((B ++ (List.range k).map (madeOf i M)).filter (isTrue o)) ++ if isTrue o (madeOf i M k) then [madeOf i M k] else [] := by
        rw [List.range_succ, List.map_append, ← List.append_assoc, List.filter_append]
        cases h : isTrue o (madeOf i M k) <;> simp [h]
      rw [hst] at ih2
      have hFl : ((B ++ (List.range k).map (madeOf i M)).filter (isTrue o)).length ≤ 100 := by
        refine Nat.le_trans (List.length_filter_le _ _) ?_
        rw [List.length_append, List.length_map, List.length_range]; omega
      generalize (B ++ (List.range k).map (madeOf i M)).filter (isTrue o) = F at ih2 hFl ⊢
      have hlS : M.looks[k].length = o.seen.length := by have := hll.1; have := hso.1; omega
      have hlS4 : M.looks[k].length ≤ 4 := by omega
      generalize M.looks[k] = l at hkd hit hlS hlS4
      generalize M.nums[k] = x at hkn hit hnn
      obtain ⟨lo, hi'⟩ := x
      simp only at hnn
      have hcb : changedN l o.seen ≤ 4 := by
        have : changedN l o.seen ≤ o.seen.length := Nat.le_trans (List.length_filter_le _ _) (by simp)
        omega
      clear hst hg1 hg2 hll ih
      rw [hit] at ih2
      cases hb : fitsP ⟨lo, hi'⟩ o.plate
      · rw [hb, Bool.and_false] at ih2
        simp -implicitDefEqProofs (maxSteps := 2000000) (disch := omega) only [go_sem, reduceCtorEq, Nat.reduceAdd, Nat.reduceSub, Nat.reduceMul, Nat.reduceLT, Nat.reduceLeDiff, Nat.reduceEqDiff, Nat.reduceBEq, Int.reduceToNat, Int.reduceLT, Int.reduceLE, Int.reduceEq, Int.reduceNeg, Int.reduceAdd, Int.reduceSub, Int.reduceMul, ↓reduceIte, Int.reduceBEq, Int.reduceBNe, hkd, hkn, Rng.av, hps, hb, Old_eta, hlS, hlS4, hs0]
        exact (ih2 trivial (j2 ++ [_])).castS (by simp; rfl) (by simp [upd, ins, subF, lookA])
      · rw [hb, Bool.and_true] at ih2
        by_cases hcc : (changedN l o.seen : Int) ≤ o.changed
        · rw [decide_eq_true hcc, if_pos rfl] at ih2
          simp -implicitDefEqProofs (maxSteps := 2000000) (disch := omega) only [go_sem, reduceCtorEq, Nat.reduceAdd, Nat.reduceSub, Nat.reduceMul, Nat.reduceLT, Nat.reduceLeDiff, Nat.reduceEqDiff, Nat.reduceBEq, Int.reduceToNat, Int.reduceLT, Int.reduceLE, Int.reduceEq, Int.reduceNeg, Int.reduceAdd, Int.reduceSub, Int.reduceMul, ↓reduceIte, Int.reduceBEq, Int.reduceBNe, hkd, hkn, Rng.av, hps, hb, Old_eta, hlS, hlS4, hs0]
          exact (ih2 trivial (j2 ++ [_])).castS (by simp; rfl) (by simp [upd, ins, subF, lookA, hpr, isv])
        · rw [decide_eq_false hcc, if_neg (by simp)] at ih2
          simp -implicitDefEqProofs (maxSteps := 2000000) (disch := omega) only [go_sem, reduceCtorEq, Nat.reduceAdd, Nat.reduceSub, Nat.reduceMul, Nat.reduceLT, Nat.reduceLeDiff, Nat.reduceEqDiff, Nat.reduceBEq, Int.reduceToNat, Int.reduceLT, Int.reduceLE, Int.reduceEq, Int.reduceNeg, Int.reduceAdd, Int.reduceSub, Int.reduceMul, ↓reduceIte, Int.reduceBEq, Int.reduceBNe, hkd, hkn, Rng.av, hps, hb, Old_eta, hlS, hlS4, hs0]
          exact (ih2 trivial (j2 ++ [_])).castS (by simp; rfl) (by simp [upd, ins, subF, lookA])
    · intro j2 _
      simp -implicitDefEqProofs (maxSteps := 2000000) (disch := omega) only [go_sem, reduceCtorEq, Nat.reduceAdd, Nat.reduceSub, Nat.reduceMul, Nat.reduceLT, Nat.reduceLeDiff, Nat.reduceEqDiff, Nat.reduceBEq, Int.reduceToNat, Int.reduceLT, Int.reduceLE, Int.reduceEq, Int.reduceNeg, Int.reduceAdd, Int.reduceSub, Int.reduceMul, ↓reduceIte, Int.reduceBEq, Int.reduceBNe]
      exact (ih trivial (j ++ (_ :: j2))).castS (by unfold madesOf; simp; rfl) (by unfold madesOf; simp [upd, ins, subF, lookA])
  · intro j _
    simp -implicitDefEqProofs (maxSteps := 2000000) (disch := omega) only [go_sem, reduceCtorEq, Nat.reduceAdd, Nat.reduceSub, Nat.reduceMul, Nat.reduceLT, Nat.reduceLeDiff, Nat.reduceEqDiff, Nat.reduceBEq, Int.reduceToNat, Int.reduceLT, Int.reduceLE, Int.reduceEq, Int.reduceNeg, Int.reduceAdd, Int.reduceSub, Int.reduceMul, ↓reduceIte, Int.reduceBEq, Int.reduceBNe]
end Go.Proofs
