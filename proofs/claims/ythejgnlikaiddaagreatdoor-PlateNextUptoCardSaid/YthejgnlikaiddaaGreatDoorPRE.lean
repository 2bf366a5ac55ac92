/- Texts of a proof: lemmas. -/
import Derived.Test.YthejgnlikaiddaaGreatDoorPRD
import Derived.Test.YthejgnlikaiddaaGreatDoorPH
import Derived.Test.YthejgnlikaiddaaGreatDoorPX2
import Derived.Test.YthejgnlikaiddaaGreatDoorPJ
set_option linter.unusedSimpArgs false
set_option linter.unusedVariables false
set_option maxRecDepth 100000
namespace Go.Proofs
open Go Go.Mu

def rtruths_s := spw2 tyCat.w tyOld.w fun c o => if OkC c ∧ OkO c o then some (.list .no 1 (((truthsM c o).map prT).map isv)) else none
theorem rtruths_ok : ∀ xs v, rtruths_s xs = some v → PureV Tryz.prog 76 xs v :=
  spw2_ok fun c o v h => by have h := someIf h; rw [← h.2]; exact rtruths_p c o h.1.1 h.1.2
def fs108 (f : FuncId) (xs : List AV) : Option AV := if f = 76 then rtruths_s xs else fs107 f xs
theorem fs108_ok : ∀ f xs v, fs108 f xs = some v → PureV Tryz.prog f xs v := by
  intro f xs v h
  unfold fs108 at h
  split at h
  · rename_i e; subst e; exact rtruths_ok _ _ h
  exact fs107_ok _ _ _ h
attribute [go_sem] fs108 rtruths_s
set_option maxHeartbeats 4000000 in
theorem rknown_p (c : Cat) (o : Old) (hc : okCat c) (ho : okOld o) : PureV Tryz.prog 51 [c.av, o.av] (.tup [.list .no 1 ((fitsM c o).1.map isv), .int .i64 (fitsM c o).2]) := by
  refine PureV.of_ev (E := Tryz.E 21 (fun _ => ([], [])) fs108) (Tryz.envOK 21 (fun _ => ([], [])) fs108 fs108_ok) (lists_plain) Tryz.kp51 Tryz.func51 rfl (by kernel_rfl) (by simp [Tryz.E]) (Callable.of Tryz.func51 (by kernel_rfl) (by kernel_rfl)) (by kernel_rfl) ?_
  intro σ
  simp only [Cat.av, Old.av]
  have hpp : prT = Made.pair := rfl
  by_cases hv : ckOld c o = 0
  · obtain ⟨hC, hO⟩ := okO_of_ck hv
    have hlen := truthsM_len (o := o) hC
    have hk : knownM c o [] = if truthsM c o = [] then ([], 9) else (truthsM c o, 0) := by
      unfold knownM; rw [if_neg (by simp [hv]), if_neg (by simp [firstE])]
    by_cases hL : truthsM c o = []
    · have hf : fitsM c o = ([], 9) := by unfold fitsM; rw [hk, if_pos hL]; rfl
      rw [hf]
      simp -implicitDefEqProofs (maxSteps := 2000000) (disch := omega) only [go_sem, reduceCtorEq, Nat.reduceAdd, Nat.reduceSub, Nat.reduceMul, Nat.reduceLT, Nat.reduceLeDiff, Nat.reduceEqDiff, Nat.reduceBEq, Int.reduceToNat, Int.reduceLT, Int.reduceLE, Int.reduceEq, Int.reduceNeg, Int.reduceAdd, Int.reduceSub, Int.reduceMul, ↓reduceIte, Int.reduceBEq, Int.reduceBNe, Cat_eta, Old_eta, hc, ho, hv, hC, hO, hL]
    · have hf : fitsM c o = ((truthsM c o).map Made.pair, 0) := by unfold fitsM; rw [hk, if_neg hL]; rfl
      rw [hf]
      have hz : ¬ (truthsM c o).length = 0 := fun h => hL (List.length_eq_zero_iff.1 h)
      simp -implicitDefEqProofs (maxSteps := 2000000) (disch := omega) only [go_sem, reduceCtorEq, Nat.reduceAdd, Nat.reduceSub, Nat.reduceMul, Nat.reduceLT, Nat.reduceLeDiff, Nat.reduceEqDiff, Nat.reduceBEq, Int.reduceToNat, Int.reduceLT, Int.reduceLE, Int.reduceEq, Int.reduceNeg, Int.reduceAdd, Int.reduceSub, Int.reduceMul, ↓reduceIte, Int.reduceBEq, Int.reduceBNe, Cat_eta, Old_eta, hc, ho, hv, hC, hO, hpp]
  · have hf : fitsM c o = ([], ckOld c o) := by
      have hk : knownM c o [] = ([], ckOld c o) := by unfold knownM; rw [if_pos hv]
      unfold fitsM; rw [hk, if_neg hv]
    rw [hf]
    simp -implicitDefEqProofs (maxSteps := 2000000) (disch := omega) only [go_sem, reduceCtorEq, Nat.reduceAdd, Nat.reduceSub, Nat.reduceMul, Nat.reduceLT, Nat.reduceLeDiff, Nat.reduceEqDiff, Nat.reduceBEq, Int.reduceToNat, Int.reduceLT, Int.reduceLE, Int.reduceEq, Int.reduceNeg, Int.reduceAdd, Int.reduceSub, Int.reduceMul, ↓reduceIte, Int.reduceBEq, Int.reduceBNe, Cat_eta, Old_eta, hc, ho, hv]
def rknown_s := spw2 tyCat.w tyOld.w fun c o => if okCat c ∧ okOld o then some (.tup [.list .no 1 ((fitsM c o).1.map isv), .int .i64 (fitsM c o).2]) else none
theorem rknown_ok : ∀ xs v, rknown_s xs = some v → PureV Tryz.prog 51 xs v :=
  spw2_ok fun c o v h => by have h := someIf h; rw [← h.2]; exact rknown_p c o h.1.1 h.1.2
def fs109 (f : FuncId) (xs : List AV) : Option AV := if f = 51 then rknown_s xs else fs108 f xs
theorem fs109_ok : ∀ f xs v, fs109 f xs = some v → PureV Tryz.prog f xs v := by
  intro f xs v h
  unfold fs109 at h
  split at h
  · rename_i e; subst e; exact rknown_ok _ _ h
  exact fs108_ok _ _ _ h
attribute [go_sem] fs109 rknown_s
theorem rFits_p (c : Cat) (o : Old) (hc : okCat c) (ho : okOld o) : PureV Tryz.prog 13 [c.av, o.av] (.tup [.list .no 1 ((fitsM c o).1.map isv), .int .i64 (fitsM c o).2]) := by
  refine PureV.of_ev (E := Tryz.E 11 (fun _ => ([], [])) fs109) (Tryz.envOK 11 (fun _ => ([], [])) fs109 fs109_ok) (lists_plain) Tryz.kp13 Tryz.func13 rfl (by kernel_rfl) (by simp [Tryz.E]) (Callable.of Tryz.func13 (by kernel_rfl) (by kernel_rfl)) (by kernel_rfl) ?_
  intro σ
  simp only [Cat.av, Old.av]
  simp -implicitDefEqProofs (maxSteps := 2000000) (disch := omega) only [go_sem, reduceCtorEq, Nat.reduceAdd, Nat.reduceSub, Nat.reduceMul, Nat.reduceLT, Nat.reduceLeDiff, Nat.reduceEqDiff, Nat.reduceBEq, Int.reduceToNat, Int.reduceLT, Int.reduceLE, Int.reduceEq, Int.reduceNeg, Int.reduceAdd, Int.reduceSub, Int.reduceMul, ↓reduceIte, Int.reduceBEq, Int.reduceBNe, Cat_eta, Old_eta, hc, ho]
def rFits_s := rknown_s
theorem rFits_ok : ∀ xs v, rFits_s xs = some v → PureV Tryz.prog 13 xs v :=
  spw2_ok fun c o v h => by have h := someIf h; rw [← h.2]; exact rFits_p c o h.1.1 h.1.2
set_option maxHeartbeats 4000000 in
theorem rmodels_p (L : List Made) (hl : L.length ≤ 16) : PureV Tryz.prog 54 [.list .no 1 ((L.map Made.pair).map isv)] (isv (dedL (L.map Made.model))) := by
  refine PureV.of_ev (E := Tryz.E 39 Tryz.ord54 fs109) (Tryz.envOK 39 Tryz.ord54 fs109 fs109_ok) (isv_plain _) Tryz.kp54 Tryz.func54 rfl (by kernel_rfl) (by simp [Tryz.E]) (Callable.of Tryz.func54 (by kernel_rfl) (by kernel_rfl)) (by kernel_rfl) ?_
  intro σ
  have hlm : ((L.map Made.pair).map isv).length = L.length := by simp
  simp -implicitDefEqProofs (maxSteps := 2000000) (disch := omega) only [go_sem, reduceCtorEq, Nat.reduceAdd, Nat.reduceSub, Nat.reduceMul, Nat.reduceLT, Nat.reduceLeDiff, Nat.reduceEqDiff, Nat.reduceBEq, Int.reduceToNat, Int.reduceLT, Int.reduceLE, Int.reduceEq, Int.reduceNeg, Int.reduceAdd, Int.reduceSub, Int.reduceMul, ↓reduceIte, Int.reduceBEq, Int.reduceBNe]
  refine ARun.ghost 3 1 (sz0 := 0) rfl (by simp [lookA]) ?_
  simp only [ins, ↓reduceIte, List.append_assoc, List.cons_append, List.nil_append, List.length_append, List.length_cons, List.length_nil, Nat.zero_add, Nat.reduceEqDiff]
  refine ARun.forG (Tryz.envOK 39 Tryz.ord54 fs109 fs109_ok) L.length (fun _ => True) (fun i => [(3, .list (.own σ.length) 1 ((dedL ((L.take i).map Made.model)).map (.int .i64))), (4, .int .i64 i)]) (fun i j => σ ++ (.tail (dedL ((L.take i).map Made.model)).length 1 :: j)) [] (by kernel_rfl) (by kernel_rfl) (by simp [dedL]) (by simp [upd, ins, subF, lookA, dedL]) trivial ?_ ?_
  · intro K Q' hK i j hi _ ih
    rw [List.take_succ_eq_append_getElem hi, List.map_append, List.map_singleton, dedL_app] at ih
    have hidx : idx ((L.map Made.pair).map isv) (i : Int) = some (.list .no 1 [.int .i64 L[i].model, .int .i64 L[i].year]) := by
      have h2 : i < (L.map Made.pair).length := by rw [List.length_map]; exact hi
      rw [idx_nat h2]; simp [Made.pair, isv]
    have hdl : (dedL ((L.take i).map Made.model)).length ≤ i := by
      have : ∀ xs : List Int, (dedL xs).length ≤ xs.length := fun xs => by
        have key : ∀ n (xs : List Int), xs.length = n → (dedL xs).length ≤ n := fun n => by
          induction n with
          | zero => intro xs e; rw [List.length_eq_zero_iff.1 e]; simp [dedL]
          | succ n ih =>
            intro xs e
            obtain ⟨ys, x, rfl⟩ : ∃ ys x, xs = ys ++ [x] := ⟨xs.dropLast, xs.getLast (fun h => by rw [h] at e; cases e), (List.dropLast_concat_getLast _).symm⟩
            have := ih ys (by simpa using e)
            rw [dedL_app]; unfold dedS
            split
            · omega
            · rw [List.length_append, List.length_singleton]; omega
        exact key _ xs rfl
      refine Nat.le_trans (this _) ?_
      rw [List.length_map, List.length_take]; omega
    generalize L[i].model = x at ih hidx
    generalize L[i].year = y at hidx
    generalize dedL ((L.take i).map Made.model) = D at ih hdl ⊢
    cases hD : D with
    | nil =>
      have hs : dedS D x = [x] := by rw [hD]; rfl
      rw [hs] at ih
      simp -implicitDefEqProofs (maxSteps := 2000000) (disch := omega) only [go_sem, reduceCtorEq, Nat.reduceAdd, Nat.reduceSub, Nat.reduceMul, Nat.reduceLT, Nat.reduceLeDiff, Nat.reduceEqDiff, Nat.reduceBEq, Int.reduceToNat, Int.reduceLT, Int.reduceLE, Int.reduceEq, Int.reduceNeg, Int.reduceAdd, Int.reduceSub, Int.reduceMul, ↓reduceIte, Int.reduceBEq, Int.reduceBNe, hidx, idx_zero]
      exact (ih trivial j).castS (by simp) (by simp [upd, ins, subF, lookA])
    | cons d ds =>
      rw [← hD]
      obtain ⟨z, hz⟩ : ∃ z, D.getLast? = some z := by rw [hD]; exact ⟨_, List.getLast?_eq_some_getLast (by simp)⟩
      have hDp : 0 < D.length := by rw [hD]; simp
      have hlast : idx (D.map (AV.int .i64)) ((D.length : Int) - 1) = some (.int .i64 z) := by
        have e : ((D.length : Int) - 1) = ((D.length - 1 : Nat) : Int) := by omega
        rw [e, idx_nat (by omega)]
        rw [List.getLast?_eq_getElem?, List.getElem?_eq_getElem (by omega)] at hz
        rw [Option.some.inj hz]
      have hs : dedS D x = if z = x then D else D ++ [x] := by unfold dedS; rw [hz]; simp
      rw [hs] at ih
      clear hs hz hD
      by_cases hx : z = x
      · rw [if_pos hx] at ih
        simp -implicitDefEqProofs (maxSteps := 2000000) (disch := omega) only [go_sem, reduceCtorEq, Nat.reduceAdd, Nat.reduceSub, Nat.reduceMul, Nat.reduceLT, Nat.reduceLeDiff, Nat.reduceEqDiff, Nat.reduceBEq, Int.reduceToNat, Int.reduceLT, Int.reduceLE, Int.reduceEq, Int.reduceNeg, Int.reduceAdd, Int.reduceSub, Int.reduceMul, ↓reduceIte, Int.reduceBEq, Int.reduceBNe, hidx, idx_zero, hlast]
        exact (ih trivial j).castS (by simp) (by simp [upd, ins, subF, lookA])
      · rw [if_neg hx] at ih
        simp -implicitDefEqProofs (maxSteps := 2000000) (disch := omega) only [go_sem, reduceCtorEq, Nat.reduceAdd, Nat.reduceSub, Nat.reduceMul, Nat.reduceLT, Nat.reduceLeDiff, Nat.reduceEqDiff, Nat.reduceBEq, Int.reduceToNat, Int.reduceLT, Int.reduceLE, Int.reduceEq, Int.reduceNeg, Int.reduceAdd, Int.reduceSub, Int.reduceMul, ↓reduceIte, Int.reduceBEq, Int.reduceBNe, hidx, idx_zero, hlast]
        exact (ih trivial j).castS (by simp) (by simp [upd, ins, subF, lookA])
  · intro j _
    rw [List.take_length]
    simp -implicitDefEqProofs (maxSteps := 2000000) (disch := omega) only [go_sem, reduceCtorEq, Nat.reduceAdd, Nat.reduceSub, Nat.reduceMul, Nat.reduceLT, Nat.reduceLeDiff, Nat.reduceEqDiff, Nat.reduceBEq, Int.reduceToNat, Int.reduceLT, Int.reduceLE, Int.reduceEq, Int.reduceNeg, Int.reduceAdd, Int.reduceSub, Int.reduceMul, ↓reduceIte, Int.reduceBEq, Int.reduceBNe, isv]
end Go.Proofs
