/- Texts of a proof: lemmas. -/
import Derived.Test.YthejgnlikaiddaaDoorPNB
set_option linter.unusedSimpArgs false
set_option linter.unusedVariables false
set_option maxRecDepth 100000
namespace Go.Proofs
open Go Go.Mu

/-- About how many features somebody has to find out. -/
def decM (c : Cat) (o : Old) : Int × Int :=
  if (knownM c o []).2 = 0 then
    if 5 ≤ needL (lostL o.seen) (truthsM c o) then (0, 11) else ((needL (lostL o.seen) (truthsM c o) : Int), 0)
  else (0, (knownM c o []).2)
theorem made_model {c : Cat} {m : Made} (hC : OkC c) (h : m ∈ allMade c) : 0 ≤ m.model ∧ m.model < 4 := by
  obtain ⟨i, k, hi, hk, rfl⟩ := all_mem h
  have := hC.models
  have e : (madeOf i (c.models.getD i default) k).model = (i : Int) := rfl
  omega
theorem hget_nth {σ l : List AObj} {k : Nat} {o : AObj} (h : l[k]? = some o) : hget (σ ++ l) (σ.length + k) = some o := by rw [hget_at]; exact h
set_option maxHeartbeats 40000000 in
theorem pDecides_p (c : Cat) (o : Old) (hc : okCat c) (ho : okOld o) : PureV Tryd.prog 38 [c.av, o.av] (.tup [.int .i64 (decM c o).1, .int .i64 (decM c o).2]) := by
  refine PureV.of_ev (E := Tryd.E 32 Tryd.ord38 fs16) (Tryd.envOK 32 Tryd.ord38 fs16 fs16_ok) (ii_plain) Tryd.kp38 Tryd.func38 rfl (by kernel_rfl) (by simp [Tryd.E]) (Callable.of Tryd.func38 (by kernel_rfl) (by kernel_rfl)) (by kernel_rfl) ?_
  intro σ
  simp only [Cat.av, Old.av]
  by_cases hk : (knownM c o []).2 = 0
  · obtain ⟨hv, hne, hke⟩ := knownM_ok hk
    obtain ⟨hC, hO⟩ := okO_of_ck hv
    have hlen := truthsM_len (o := o) hC
    have hos := ho.1
    have hsn : o.seen.length ≤ 4 := seen_len hC hO
    have hll : (lostL o.seen).length ≤ 4 := by unfold lostL; rw [List.length_map]; exact Nat.le_trans (List.length_filter_le _ _) (by simpa using hsn)
    have hlm := fun f (h : f ∈ lostL o.seen) => lostL_mem h
    have hmm : ∀ m ∈ truthsM c o, 0 ≤ m.model ∧ m.model < 4 := fun m hm => made_model hC (mem_truths.1 hm).1
    have hr : decM c o = if 5 ≤ needL (lostL o.seen) (truthsM c o) then (0, 11) else ((needL (lostL o.seen) (truthsM c o) : Int), 0) := by unfold decM; rw [if_pos hk]
    rw [hr]
    have hFm : ∀ f ∈ lostL o.seen, 0 ≤ f ∧ f < 4 := fun f hf => by have := hlm f hf; omega
    clear hr hlm
    generalize hF : lostL o.seen = F at hll hFm ⊢
    simp -implicitDefEqProofs (maxSteps := 2000000) (disch := omega) only [go_sem, reduceCtorEq, Nat.reduceAdd, Nat.reduceSub, Nat.reduceMul, Nat.reduceLT, Nat.reduceLeDiff, Nat.reduceEqDiff, Nat.reduceBEq, Int.reduceToNat, Int.reduceLT, Int.reduceLE, Int.reduceEq, Int.reduceNeg, Int.reduceAdd, Int.reduceSub, Int.reduceMul, ↓reduceIte, Int.reduceBEq, Int.reduceBNe, Cat_eta, Old_eta, hc, ho, hke, hos, isv, hF]
    generalize truthsM c o = L at hlen hmm hne ⊢
    have hsw : selL L (2 ^ L.length - 1) = L := selL_whole
    refine needs_c (a1 := σ.length + 5) (a2 := σ.length + 2) (a3 := σ.length + 3) (a4 := σ.length + 6) (mr := σ.length + 4) hlen hmm hll hFm L.length (2 ^ L.length - 1) (by have := Nat.two_pow_pos L.length; omega) (by rw [hsw]; exact hne) (by rw [hsw]; exact Nat.le_refl _) _ ⟨hget_nth rfl, hget_nth rfl, hget_nth rfl, hget_nth rfl, [], hget_nth rfl, fun p hp => by simp at hp⟩ _ fun σ' hs hd => ?_
    rw [hsw]
    have hn5 := needL_le (F := F) (T := L)
    have hsz := hs.1
    have hsame := hs.2
    simp only [List.length_append, List.length_cons, List.length_nil] at hsz hsame
    generalize needL F L = n at hn5 ⊢
    by_cases h5 : 5 ≤ n
    · rw [if_pos h5]
      simp -implicitDefEqProofs (maxSteps := 2000000) (disch := omega) only [go_sem, reduceCtorEq, Nat.reduceAdd, Nat.reduceSub, Nat.reduceMul, Nat.reduceLT, Nat.reduceLeDiff, Nat.reduceEqDiff, Nat.reduceBEq, Int.reduceToNat, Int.reduceLT, Int.reduceLE, Int.reduceEq, Int.reduceNeg, Int.reduceAdd, Int.reduceSub, Int.reduceMul, ↓reduceIte, Int.reduceBEq, Int.reduceBNe]
      exact gives_same (by omega) (fun q hq => by rw [hsame q (by omega) (by omega), hget_app hq]) (by simp [wk, wkL, wk1, wk0])
    · rw [if_neg h5]
      simp -implicitDefEqProofs (maxSteps := 2000000) (disch := omega) only [go_sem, reduceCtorEq, Nat.reduceAdd, Nat.reduceSub, Nat.reduceMul, Nat.reduceLT, Nat.reduceLeDiff, Nat.reduceEqDiff, Nat.reduceBEq, Int.reduceToNat, Int.reduceLT, Int.reduceLE, Int.reduceEq, Int.reduceNeg, Int.reduceAdd, Int.reduceSub, Int.reduceMul, ↓reduceIte, Int.reduceBEq, Int.reduceBNe]
      exact gives_same (by omega) (fun q hq => by rw [hsame q (by omega) (by omega), hget_app hq]) (by simp [wk, wkL, wk1, wk0])
  · have hr : decM c o = (0, (knownM c o []).2) := by unfold decM; rw [if_neg hk]
    rw [hr]
    simp -implicitDefEqProofs (maxSteps := 2000000) (disch := omega) only [go_sem, reduceCtorEq, Nat.reduceAdd, Nat.reduceSub, Nat.reduceMul, Nat.reduceLT, Nat.reduceLeDiff, Nat.reduceEqDiff, Nat.reduceBEq, Int.reduceToNat, Int.reduceLT, Int.reduceLE, Int.reduceEq, Int.reduceNeg, Int.reduceAdd, Int.reduceSub, Int.reduceMul, ↓reduceIte, Int.reduceBEq, Int.reduceBNe, Cat_eta, Old_eta, hc, ho, hk, isv]
def pDecides_s := spw2 tyCat.w tyOld.w fun c o => if okCat c ∧ okOld o then some (.tup [.int .i64 (decM c o).1, .int .i64 (decM c o).2]) else none
theorem pDecides_ok : ∀ xs v, pDecides_s xs = some v → PureV Tryd.prog 38 xs v :=
  spw2_ok fun c o v h => by have h := someIf h; rw [← h.2]; exact pDecides_p c o h.1.1 h.1.2
end Go.Proofs
