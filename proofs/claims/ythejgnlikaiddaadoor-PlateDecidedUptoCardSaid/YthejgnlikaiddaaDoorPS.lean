/- Texts of a proof: lemmas. -/
import Derived.Test.YthejgnlikaiddaaDoorPR
set_option linter.unusedSimpArgs false
set_option linter.unusedVariables false
set_option maxRecDepth 100000
namespace Go.Proofs
open Go Go.Mu

def oA : Old := ⟨[1, 0], ⟨#[48, 50, 63, 63]⟩, 0⟩
def oB : Old := ⟨[1, 0], ⟨#[48, 51, 53, 63]⟩, 0⟩
def oC : Old := ⟨[1, 0], ⟨#[]⟩, 0⟩
theorem nextN_eq {l : List Made} (hl : l.length ≤ 16) (f : Int) : nextN l f = ((looksM (2 ^ l.length - 1) l f).map fun p => popF p.2).foldl max 0 := by
  have : (looksM (2 ^ l.length - 1) l f).map (fun p => popN p.2) = (looksM (2 ^ l.length - 1) l f).map fun p => popF p.2 :=
    List.map_congr_left fun p hp => (popF_eq _ (looksM_lt hl p hp)).symm
  unfold nextN maxPop; rw [this]
theorem worksC_ok : okCat worksC := by decide
theorem oA_ok : okOld oA := by decide
theorem oB_ok : okOld oB := by decide
theorem oC_ok : okOld oC := by decide
theorem dusty_f : fitsM worksC oA = ([[0, 1921], [1, 1921]], 0) := by kernel_rfl
theorem dusty_l : leastM worksC oB = (1, 0) := by kernel_rfl
theorem dusty_fo : forgedM worksC oB = (true, 0) := by kernel_rfl
theorem dusty_t : truthsM worksC oC = [⟨0, 1920, 1, 1, 0, 0, ⟨100, 199⟩⟩, ⟨0, 1921, 1, 2, 0, 0, ⟨200, 299⟩⟩, ⟨1, 1921, 1, 2, 0, 0, ⟨250, 349⟩⟩] := by kernel_rfl
theorem dusty_k0 : (knownM worksC oC []).2 = 0 := by kernel_rfl
theorem dusty_k1 : (knownM worksC oC [featE worksC 1]).2 = 0 := by kernel_rfl
theorem dusty_n : nextM worksC oC = (1, 2, 0) := by
  have h1 : lostL oC.seen = [1] := by decide
  have h2 : nextN (truthsM worksC oC) 1 = 2 := by
    rw [nextN_eq (by rw [dusty_t]; decide), dusty_t]; kernel_rfl
  unfold nextM
  rw [if_pos dusty_k0, h1, if_neg (by simp)]
  have h3 : ∀ num : Int → Int, leastL num [1] = (1, num 1) := fun _ => rfl
  simp only [h3, h2]; rfl
theorem dusty_k : knownFM worksC oC 1 = ([1, 2], 0) := by
  unfold knownFM
  rw [if_pos dusty_k1, dusty_t]
  have h2 : valuesZ (fun m : Made => tg m.look 1) [⟨0, 1920, 1, 1, 0, 0, ⟨100, 199⟩⟩, ⟨0, 1921, 1, 2, 0, 0, ⟨200, 299⟩⟩, ⟨1, 1921, 1, 2, 0, 0, ⟨250, 349⟩⟩] = [1, 2] := by
    have h3 : sortL [1, 2, 2] = [1, 2, 2] := List.mergeSort_of_pairwise (by decide)
    show compactZ (sortL [1, 2, 2]) = _
    rw [h3]; decide
  rw [h2]
theorem dusty_p : PureV Tryd.prog 19 [] (.bool true) := by
  refine PureV.of_ev (E := Tryd.E 93 (fun _ => ([], [])) fs18) (Tryd.envOK 93 (fun _ => ([], [])) fs18 fs18_ok) (.bool) Tryd.kp19 Tryd.func19 rfl (by kernel_rfl) (by simp [Tryd.E]) (Callable.of Tryd.func19 (by kernel_rfl) (by kernel_rfl)) (by kernel_rfl) ?_
  intro σ
  have w1 : okCat ⟨2, worksC.models⟩ := worksC_ok
  have a1 : okOld ⟨[1, 0], ⟨#[48, 50, 63, 63]⟩, 0⟩ := oA_ok
  have a2 : okOld ⟨[1, 0], ⟨#[48, 51, 53, 63]⟩, 0⟩ := oB_ok
  have a3 : okOld ⟨[1, 0], ⟨#[]⟩, 0⟩ := oC_ok
  have f1 : fitsM ⟨2, worksC.models⟩ ⟨[1, 0], ⟨#[48, 50, 63, 63]⟩, 0⟩ = ([[0, 1921], [1, 1921]], 0) := dusty_f
  have f2 : leastM ⟨2, worksC.models⟩ ⟨[1, 0], ⟨#[48, 51, 53, 63]⟩, 0⟩ = (1, 0) := dusty_l
  have f3 : forgedM ⟨2, worksC.models⟩ ⟨[1, 0], ⟨#[48, 51, 53, 63]⟩, 0⟩ = (true, 0) := dusty_fo
  have f4 : nextM ⟨2, worksC.models⟩ ⟨[1, 0], ⟨#[]⟩, 0⟩ = (1, 2, 0) := dusty_n
  have f5 : knownFM ⟨2, worksC.models⟩ ⟨[1, 0], ⟨#[]⟩, 0⟩ 1 = ([1, 2], 0) := dusty_k
  have w3 : decL 3 decModel (.list .full 3 (worksC.models.map Model.avF)) = some worksC.models := decL_self (f := Model.avF) fun _ => decModel_avF
  have e1 : decL 1 (decL 1 decI) (.list .no 1 [isv [0, 1921], isv [1, 1921]]) = some [[0, 1921], [1, 1921]] := decL_iss (l := [[0, 1921], [1, 1921]])
  have e2 : decL 1 (decL 1 decI) (.list .full 1 [.list .no 1 [.int .i64 0, .int .i64 1921], .list .no 1 [.int .i64 1, .int .i64 1921]]) = some [[0, 1921], [1, 1921]] := decL_iss (l := [[0, 1921], [1, 1921]])
  simp -implicitDefEqProofs (maxSteps := 2000000) (disch := omega) only [go_sem, reduceCtorEq, Nat.reduceAdd, Nat.reduceSub, Nat.reduceMul, Nat.reduceLT, Nat.reduceLeDiff, Nat.reduceEqDiff, Nat.reduceBEq, Int.reduceToNat, Int.reduceLT, Int.reduceLE, Int.reduceEq, Int.reduceNeg, Int.reduceAdd, Int.reduceSub, Int.reduceMul, ↓reduceIte, Int.reduceBEq, Int.reduceBNe, e1, e2, List.forall_mem_cons, List.not_mem_nil, w3, w1, a1, a2, a3, f1, f2, f3, f4, f5]
end Go.Proofs
