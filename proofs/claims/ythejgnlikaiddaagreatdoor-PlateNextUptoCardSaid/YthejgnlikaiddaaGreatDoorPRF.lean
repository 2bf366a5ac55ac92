/- Texts of a proof: lemmas. -/
import Derived.Test.YthejgnlikaiddaaGreatDoorPRE
set_option linter.unusedSimpArgs false
set_option linter.unusedVariables false
set_option maxRecDepth 100000
namespace Go.Proofs
open Go Go.Mu

def toMade (t : List Int) : Made := ⟨tg t 0, tg t 1, 0, 0, 0, 0, ⟨0, 0⟩⟩
theorem pair_toMade {l : List (List Int)} (h : ∀ t ∈ l, t.length = 2) : (l.map toMade).map Made.pair = l := by
  rw [List.map_map]
  conv => rhs; rw [← List.map_id l]
  refine List.map_congr_left fun t ht => ?_
  match t, h t ht with
  | [a, b], _ => rfl
def rmodels_s := spw1 tyIss.w fun l => if l.length ≤ 16 ∧ ∀ t ∈ l, t.length = 2 then some (isv (dedL (l.map fun t => tg t 0))) else none
theorem rmodels_ok : ∀ xs v, rmodels_s xs = some v → PureV Tryz.prog 54 xs v :=
  spw1_ok fun l v h => by
    have h := someIf h
    rw [← h.2]
    have := rmodels_p (l.map toMade) (by rw [List.length_map]; exact h.1.1)
    rw [pair_toMade h.1.2, List.map_map] at this
    exact this
def fs110 (f : FuncId) (xs : List AV) : Option AV := if f = 54 then rmodels_s xs else if f = 13 then rFits_s xs else fs109 f xs
theorem fs110_ok : ∀ f xs v, fs110 f xs = some v → PureV Tryz.prog f xs v := by
  intro f xs v h
  unfold fs110 at h
  split at h
  · rename_i e; subst e; exact rmodels_ok _ _ h
  split at h
  · rename_i e; subst e; exact rFits_ok _ _ h
  exact fs109_ok _ _ _ h
attribute [go_sem] fs110 rmodels_s rFits_s
theorem pairs_two {L : List Made} : (∀ t ∈ L.map Made.pair, t.length = 2) = True := eq_true fun t ht => by
  obtain ⟨m, _, rfl⟩ := List.mem_map.1 ht; rfl
theorem pairs_mod {L : List Made} : (L.map Made.pair).map (fun t => tg t 0) = L.map Made.model := by rw [List.map_map]; rfl
theorem fits_known {c : Cat} {o : Old} : (fitsM c o).2 = (knownM c o []).2 := by
  unfold fitsM
  by_cases h : (knownM c o []).2 = 0
  · rw [if_pos h, h]
  · rw [if_neg h]
set_option maxHeartbeats 4000000 in
theorem rModels_p (c : Cat) (o : Old) (hc : okCat c) (ho : okOld o) : PureV Tryz.prog 15 [c.av, o.av] (.tup [isv (modelsM c o).1, .int .i64 (modelsM c o).2]) := by
  refine PureV.of_ev (E := Tryz.E 19 (fun _ => ([], [])) fs110) (Tryz.envOK 19 (fun _ => ([], [])) fs110 fs110_ok) (isvI_plain) Tryz.kp15 Tryz.func15 rfl (by kernel_rfl) (by simp [Tryz.E]) (Callable.of Tryz.func15 (by kernel_rfl) (by kernel_rfl)) (by kernel_rfl) ?_
  intro σ
  simp only [Cat.av, Old.av]
  by_cases hk : (knownM c o []).2 = 0
  · obtain ⟨hv, hne, hke⟩ := knownM_ok hk
    have hlen := truthsM_len (o := o) (okO_of_ck hv).1
    have hr : modelsM c o = (dedL ((truthsM c o).map Made.model), 0) := by unfold modelsM; rw [if_pos hk, models_eq]
    have hf : fitsM c o = ((truthsM c o).map Made.pair, 0) := by unfold fitsM; rw [if_pos hk]
    rw [hr]
    generalize truthsM c o = L at hlen hf ⊢
    have hp2 := @pairs_two L
    have hpm := @pairs_mod L
    have hpl : (L.map Made.pair).length ≤ 16 := by rw [List.length_map]; exact hlen
    generalize L.map Made.pair = B at hf hp2 hpm hpl
    simp -implicitDefEqProofs (maxSteps := 2000000) (disch := omega) only [go_sem, reduceCtorEq, Nat.reduceAdd, Nat.reduceSub, Nat.reduceMul, Nat.reduceLT, Nat.reduceLeDiff, Nat.reduceEqDiff, Nat.reduceBEq, Int.reduceToNat, Int.reduceLT, Int.reduceLE, Int.reduceEq, Int.reduceNeg, Int.reduceAdd, Int.reduceSub, Int.reduceMul, ↓reduceIte, Int.reduceBEq, Int.reduceBNe, Cat_eta, Old_eta, hc, ho, hf, hp2, hpm, hpl, isv]
  · have hr : modelsM c o = ([], (knownM c o []).2) := by unfold modelsM; rw [if_neg hk]
    have hf := @fits_known c o
    rw [hr]
    simp -implicitDefEqProofs (maxSteps := 2000000) (disch := omega) only [go_sem, reduceCtorEq, Nat.reduceAdd, Nat.reduceSub, Nat.reduceMul, Nat.reduceLT, Nat.reduceLeDiff, Nat.reduceEqDiff, Nat.reduceBEq, Int.reduceToNat, Int.reduceLT, Int.reduceLE, Int.reduceEq, Int.reduceNeg, Int.reduceAdd, Int.reduceSub, Int.reduceMul, ↓reduceIte, Int.reduceBEq, Int.reduceBNe, Cat_eta, Old_eta, hc, ho, hf, hk, isv]
def pModelsZ_s := spw2 tyCat.w tyOld.w fun c o => if okCat c ∧ okOld o then some (.tup [isv (modelsM c o).1, .int .i64 (modelsM c o).2]) else none
theorem pModelsZ_ok : ∀ xs v, pModelsZ_s xs = some v → PureV Tryz.prog 14 xs v :=
  spw2_ok fun c o v h => by have h := someIf h; rw [← h.2]; exact pModels_p c o h.1.1 h.1.2
def rModels_s := spw2 tyCat.w tyOld.w fun c o => if okCat c ∧ okOld o then some (.tup [isv (modelsM c o).1, .int .i64 (modelsM c o).2]) else none
theorem rModels_ok : ∀ xs v, rModels_s xs = some v → PureV Tryz.prog 15 xs v :=
  spw2_ok fun c o v h => by have h := someIf h; rw [← h.2]; exact rModels_p c o h.1.1 h.1.2
def fs111 (f : FuncId) (xs : List AV) : Option AV := if f = 15 then rModels_s xs else if f = 14 then pModelsZ_s xs else fs110 f xs
theorem fs111_ok : ∀ f xs v, fs111 f xs = some v → PureV Tryz.prog f xs v := by
  intro f xs v h
  unfold fs111 at h
  split at h
  · rename_i e; subst e; exact rModels_ok _ _ h
  split at h
  · rename_i e; subst e; exact pModelsZ_ok _ _ h
  exact fs110_ok _ _ _ h
attribute [go_sem] fs111 rModels_s pModelsZ_s
/-- The model of an instrument. -/
def modelM (c : Cat) (o : Old) : Int × Int :=
  if (modelsM c o).2 ≠ 0 then (0, (modelsM c o).2) else if 1 < (modelsM c o).1.length then (0, 12) else (tg (modelsM c o).1 0, 0)
theorem models_val {c : Cat} {o : Old} (hk : (knownM c o []).2 = 0) : ∃ vs, modelsM c o = (vs, 0) ∧ vs = valuesZ Made.model (truthsM c o) ∧ 0 < vs.length ∧ vs.length ≤ 16 := by
  obtain ⟨hv, hne, hke⟩ := knownM_ok hk
  have hlen := truthsM_len (o := o) (okO_of_ck hv).1
  refine ⟨valuesZ Made.model (truthsM c o), by unfold modelsM; rw [if_pos hk], rfl, List.length_pos_iff.2 (valuesZ_ne hne), Nat.le_trans valuesZ_len hlen⟩
set_option maxHeartbeats 4000000 in
theorem rModel_p (c : Cat) (o : Old) (hc : okCat c) (ho : okOld o) : PureV Tryz.prog 17 [c.av, o.av] (.tup [.int .i64 (modelM c o).1, .int .i64 (modelM c o).2]) := by
  refine PureV.of_ev (E := Tryz.E 26 (fun _ => ([], [])) fs110) (Tryz.envOK 26 (fun _ => ([], [])) fs110 fs110_ok) (.tup (by simp; exact ⟨.int, .int⟩)) Tryz.kp17 Tryz.func17 rfl (by kernel_rfl) (by simp [Tryz.E]) (Callable.of Tryz.func17 (by kernel_rfl) (by kernel_rfl)) (by kernel_rfl) ?_
  intro σ
  simp only [Cat.av, Old.av]
  by_cases hk : (knownM c o []).2 = 0
  · obtain ⟨hv, hne, hke⟩ := knownM_ok hk
    have hlen := truthsM_len (o := o) (okO_of_ck hv).1
    obtain ⟨vs, h1, h2, h3, h4⟩ := models_val hk
    have hf : fitsM c o = ((truthsM c o).map Made.pair, 0) := by unfold fitsM; rw [if_pos hk]
    have hm : modelM c o = if 1 < vs.length then (0, 12) else (tg vs 0, 0) := by unfold modelM; rw [h1, if_neg (by simp)]
    rw [hm]
    rw [← models_eq] at h2
    obtain ⟨m, L, hL⟩ : ∃ m L, truthsM c o = m :: L := by cases h : truthsM c o with | nil => exact absurd h hne | cons a b => exact ⟨a, b, rfl⟩
    have h0 : ¬ 1 < vs.length → tg vs 0 = m.model := fun h => by
      have hm : m.model ∈ vs := by rw [h2, models_eq]; exact valuesZ_mem.2 ⟨m, by rw [hL]; simp, rfl⟩
      match vs, h3, h, hm with
      | [a], _, _, hm => simp at hm; rw [hm]; rfl
      | a :: b :: _, _, h, _ => simp at h
    have hp2 := @pairs_two (truthsM c o)
    have hpm := @pairs_mod (truthsM c o)
    have hpl : ((truthsM c o).map Made.pair).length ≤ 16 := by rw [List.length_map]; exact hlen
    have hpd : dedL (((truthsM c o).map Made.pair).map fun t => tg t 0) = vs := by rw [hpm, ← h2]
    clear hpm
    have hid : ∀ l : List AV, idx (isv m.pair :: l) 0 = some (.list .no 1 [.int .i64 m.model, .int .i64 m.year]) := fun _ => rfl
    have hB : ((truthsM c o).map Made.pair).map isv = isv m.pair :: (L.map Made.pair).map isv := by rw [hL]; rfl
    generalize (truthsM c o).map Made.pair = B at hf hp2 hpd hpl hB
    have hvi : isv vs = .list .no 1 (vs.map (.int .i64)) := rfl
    have hidx : idx (B.map isv) 0 = some (.list .no 1 [.int .i64 m.model, .int .i64 m.year]) := by rw [hB]; exact hid _
    clear hid hB
    by_cases hg : 1 < vs.length
    · rw [if_pos hg]
      simp -implicitDefEqProofs (maxSteps := 2000000) (disch := omega) only [go_sem, reduceCtorEq, Nat.reduceAdd, Nat.reduceSub, Nat.reduceMul, Nat.reduceLT, Nat.reduceLeDiff, Nat.reduceEqDiff, Nat.reduceBEq, Int.reduceToNat, Int.reduceLT, Int.reduceLE, Int.reduceEq, Int.reduceNeg, Int.reduceAdd, Int.reduceSub, Int.reduceMul, ↓reduceIte, Int.reduceBEq, Int.reduceBNe, Cat_eta, Old_eta, hc, ho, hf, hp2, hpd, hpl, hvi]
    · rw [if_neg hg, h0 hg]
      simp -implicitDefEqProofs (maxSteps := 2000000) (disch := omega) only [go_sem, reduceCtorEq, Nat.reduceAdd, Nat.reduceSub, Nat.reduceMul, Nat.reduceLT, Nat.reduceLeDiff, Nat.reduceEqDiff, Nat.reduceBEq, Int.reduceToNat, Int.reduceLT, Int.reduceLE, Int.reduceEq, Int.reduceNeg, Int.reduceAdd, Int.reduceSub, Int.reduceMul, ↓reduceIte, Int.reduceBEq, Int.reduceBNe, Cat_eta, Old_eta, hc, ho, hf, hp2, hpd, hpl, hvi, hidx, idx_zero]
  · have hr : modelsM c o = ([], (knownM c o []).2) := by unfold modelsM; rw [if_neg hk]
    have hf := @fits_known c o
    have hm : modelM c o = (0, (knownM c o []).2) := by unfold modelM; rw [hr, if_pos hk]
    rw [hm]
    simp -implicitDefEqProofs (maxSteps := 2000000) (disch := omega) only [go_sem, reduceCtorEq, Nat.reduceAdd, Nat.reduceSub, Nat.reduceMul, Nat.reduceLT, Nat.reduceLeDiff, Nat.reduceEqDiff, Nat.reduceBEq, Int.reduceToNat, Int.reduceLT, Int.reduceLE, Int.reduceEq, Int.reduceNeg, Int.reduceAdd, Int.reduceSub, Int.reduceMul, ↓reduceIte, Int.reduceBEq, Int.reduceBNe, Cat_eta, Old_eta, hc, ho, hf, hk]
def rModel_s := spw2 tyCat.w tyOld.w fun c o => if okCat c ∧ okOld o then some (.tup [.int .i64 (modelM c o).1, .int .i64 (modelM c o).2]) else none
theorem rModel_ok : ∀ xs v, rModel_s xs = some v → PureV Tryz.prog 17 xs v :=
  spw2_ok fun c o v h => by have h := someIf h; rw [← h.2]; exact rModel_p c o h.1.1 h.1.2
set_option maxHeartbeats 4000000 in
theorem pModel_p (c : Cat) (o : Old) (hc : okCat c) (ho : okOld o) : PureV Tryz.prog 16 [c.av, o.av] (.tup [.int .i64 (modelM c o).1, .int .i64 (modelM c o).2]) := by
  refine PureV.of_ev (E := Tryz.E 25 (fun _ => ([], [])) fs111) (Tryz.envOK 25 (fun _ => ([], [])) fs111 fs111_ok) (.tup (by simp; exact ⟨.int, .int⟩)) Tryz.kp16 Tryz.func16 rfl (by kernel_rfl) (by simp [Tryz.E]) (Callable.of Tryz.func16 (by kernel_rfl) (by kernel_rfl)) (by kernel_rfl) ?_
  intro σ
  simp only [Cat.av, Old.av]
  by_cases hk : (knownM c o []).2 = 0
  · obtain ⟨vs, h1, h2, h3, h4⟩ := models_val hk
    have hm : modelM c o = if 1 < vs.length then (0, 12) else (tg vs 0, 0) := by unfold modelM; rw [h1, if_neg (by simp)]
    rw [hm]
    clear h2
    have hvi : isv vs = .list .no 1 (vs.map (.int .i64)) := rfl
    have h0 : idx (vs.map (AV.int .i64)) 0 = some (.int .i64 (tg vs 0)) := by
      have := idx_nat (l := vs) (f := AV.int .i64) h3
      rw [show tg vs 0 = vs[0] from tgE h3]; exact this
    by_cases hg : 1 < vs.length
    · rw [if_pos hg]
      simp -implicitDefEqProofs (maxSteps := 2000000) (disch := omega) only [go_sem, reduceCtorEq, Nat.reduceAdd, Nat.reduceSub, Nat.reduceMul, Nat.reduceLT, Nat.reduceLeDiff, Nat.reduceEqDiff, Nat.reduceBEq, Int.reduceToNat, Int.reduceLT, Int.reduceLE, Int.reduceEq, Int.reduceNeg, Int.reduceAdd, Int.reduceSub, Int.reduceMul, ↓reduceIte, Int.reduceBEq, Int.reduceBNe, Cat_eta, Old_eta, hc, ho, h1, hvi]
    · rw [if_neg hg]
      simp -implicitDefEqProofs (maxSteps := 2000000) (disch := omega) only [go_sem, reduceCtorEq, Nat.reduceAdd, Nat.reduceSub, Nat.reduceMul, Nat.reduceLT, Nat.reduceLeDiff, Nat.reduceEqDiff, Nat.reduceBEq, Int.reduceToNat, Int.reduceLT, Int.reduceLE, Int.reduceEq, Int.reduceNeg, Int.reduceAdd, Int.reduceSub, Int.reduceMul, ↓reduceIte, Int.reduceBEq, Int.reduceBNe, Cat_eta, Old_eta, hc, ho, h1, hvi, h0]
  · have hr : modelsM c o = ([], (knownM c o []).2) := by unfold modelsM; rw [if_neg hk]
    have hm : modelM c o = (0, (knownM c o []).2) := by unfold modelM; rw [hr, if_pos hk]
    rw [hm]
    simp -implicitDefEqProofs (maxSteps := 2000000) (disch := omega) only [go_sem, reduceCtorEq, Nat.reduceAdd, Nat.reduceSub, Nat.reduceMul, Nat.reduceLT, Nat.reduceLeDiff, Nat.reduceEqDiff, Nat.reduceBEq, Int.reduceToNat, Int.reduceLT, Int.reduceLE, Int.reduceEq, Int.reduceNeg, Int.reduceAdd, Int.reduceSub, Int.reduceMul, ↓reduceIte, Int.reduceBEq, Int.reduceBNe, Cat_eta, Old_eta, hc, ho, hr, hk]
def pModel_s := spw2 tyCat.w tyOld.w fun c o => if okCat c ∧ okOld o then some (.tup [.int .i64 (modelM c o).1, .int .i64 (modelM c o).2]) else none
theorem pModel_ok : ∀ xs v, pModel_s xs = some v → PureV Tryz.prog 16 xs v :=
  spw2_ok fun c o v h => by have h := someIf h; rw [← h.2]; exact pModel_p c o h.1.1 h.1.2
end Go.Proofs
