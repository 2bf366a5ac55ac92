/- Texts of a proof: lemmas. -/
import Derived.Test.YthejgnlikaiddaaGreatDoorPRH
import Derived.Test.YthejgnlikaiddaaGreatDoorPW1
set_option linter.unusedSimpArgs false
set_option linter.unusedVariables false
set_option maxRecDepth 100000
namespace Go.Proofs
open Go Go.Mu

def fs115 (f : FuncId) (xs : List AV) : Option AV := if f = 18 then pCheck_s xs else if f = 20 then valid_s xs else if f = 12 then pFits_s xs else if f = 8 then dusty_s xs else if f = 11 then copyOld_s xs else fs114 f xs
theorem fs115_ok : ∀ f xs v, fs115 f xs = some v → PureV Tryz.prog f xs v := by
  intro f xs v h
  unfold fs115 at h
  split at h
  · rename_i e; subst e; exact pCheck_ok _ _ h
  split at h
  · rename_i e; subst e; exact valid_ok _ _ h
  split at h
  · rename_i e; subst e; exact pFits_ok _ _ h
  split at h
  · rename_i e; subst e; exact dusty_ok _ _ h
  split at h
  · rename_i e; subst e; exact copyOld_ok _ _ h
  exact fs114_ok _ _ _ h
attribute [go_sem] fs115 pCheck_s valid_s pFits_s dusty_s copyOld_s
/-- Catalogues and instruments that are gone through. -/
def fourC (c c1 : Cat) : List Cat := [c, c1, c1, c1]
def fourO (o o1 o2 : Old) : List Old := [o, o1, o2, o]
set_option maxHeartbeats 4000000 in
theorem cases_c (c : Cat) (o : Old) (other : ByteArray) (nums : List Int) (hl : nums.length ≤ 4294967296) (σ : List AObj) (Q : AV → List AObj → Prop) (h : ∀ c1 o1 junk, OkC c1 → OkO c1 o1 → Q (.tup [.list .full 2 ((fourC c c1).map Cat.av), .list .full 3 ((fourO o o1 ⟨o1.seen, other, o1.changed⟩).map Old.av)]) (σ ++ junk)) :
    ACalls Tryz.prog 9 [c.av, o.av, .str other, .list .no 1 (nums.map (.int .i64))] σ Q := by
  refine ACalls.of_ev (E := Tryz.E 41 Tryz.ord9 fs115) (Tryz.envOK 41 Tryz.ord9 fs115 fs115_ok) Tryz.kp9 Tryz.func9 rfl (by kernel_rfl) (by simp [Tryz.E]) (Callable.of Tryz.func9 (by kernel_rfl) (by kernel_rfl)) (by kernel_rfl) ?_
  have hcav : ∀ c : Cat, c.av = .agg [.int .i64 c.features, .list .no 3 (c.models.map Model.av)] := fun _ => rfl
  simp only [Cat.av, Old.av, isv]
  simp -implicitDefEqProofs (maxSteps := 2000000) (disch := omega) only [go_sem, reduceCtorEq, Nat.reduceAdd, Nat.reduceSub, Nat.reduceMul, Nat.reduceLT, Nat.reduceLeDiff, Nat.reduceEqDiff, Nat.reduceBEq, Int.reduceToNat, Int.reduceLT, Int.reduceLE, Int.reduceEq, Int.reduceNeg, Int.reduceAdd, Int.reduceSub, Int.reduceMul, ↓reduceIte, Int.reduceBEq, Int.reduceBNe]
  refine newPot_c nums .no hl _ _ fun s0 junk0 => ?_
  simp only [List.append_assoc, List.cons_append, List.nil_append]
  have hp : PotAt (σ ++ (.cells [.int .i64 c.features, .list .no 3 (c.models.map Model.av)] :: .cells [.list .no 1 (o.seen.map (.int .i64)), .str o.plate, .int .i64 o.changed] :: .cells [.int .u64 s0] :: junk0)) (σ.length + 2) := ⟨s0, by rw [hget_at]; rfl⟩
  obtain ⟨σ1, e1⟩ : ∃ σ1, σ1 = σ ++ (.cells [.int .i64 c.features, .list .no 3 (c.models.map Model.av)] :: .cells [.list .no 1 (o.seen.map (.int .i64)), .str o.plate, .int .i64 o.changed] :: .cells [.int .u64 s0] :: junk0) := ⟨_, rfl⟩
  rw [← e1] at hp
  simp only [List.length_append, List.length_cons, List.length_nil, Nat.zero_add, Nat.reduceAdd]
  rw [← e1]
  have q4 : hget σ1 σ.length = some (.cells [.int .i64 c.features, .list .no 3 (c.models.map Model.av)]) := by rw [e1, hget_at0]; rfl
  have q5 : hget σ1 (σ.length + 1) = some (.cells [.list .no 1 (o.seen.map (.int .i64)), .str o.plate, .int .i64 o.changed]) := by rw [e1, hget_at]; rfl
  have q6 : ∀ k, k < σ.length → hget σ1 k = hget σ k := fun k hk => by rw [e1, hget_app hk]
  have hend : ∀ s l, pw σ1 (σ.length + 2) s ++ l = σ ++ ((AObj.cells [.int .i64 c.features, .list .no 3 (c.models.map Model.av)] :: .cells [.list .no 1 (o.seen.map (.int .i64)), .str o.plate, .int .i64 o.changed] :: .cells [.int .u64 s] :: junk0) ++ l) := fun s l => by
    rw [e1]; unfold pw; rw [hset_at, List.append_assoc]; rfl
  clear e1 q6
  have hr := hp.lt
  have q4p : ∀ s l, hget (pw σ1 (σ.length + 2) s ++ l) σ.length = some (.cells [.int .i64 c.features, .list .no 3 (c.models.map Model.av)]) := fun s l => by rw [pw_get (hget_lt q4) (by omega)]; exact q4
  have q5p : ∀ s l, hget (pw σ1 (σ.length + 2) s ++ l) (σ.length + 1) = some (.cells [.list .no 1 (o.seen.map (.int .i64)), .str o.plate, .int .i64 o.changed]) := fun s l => by rw [pw_get (hget_lt q5) (by omega)]; exact q5
  simp -implicitDefEqProofs (maxSteps := 2000000) (disch := omega) only [go_sem, reduceCtorEq, Nat.reduceAdd, Nat.reduceSub, Nat.reduceMul, Nat.reduceLT, Nat.reduceLeDiff, Nat.reduceEqDiff, Nat.reduceBEq, Int.reduceToNat, Int.reduceLT, Int.reduceLE, Int.reduceEq, Int.reduceNeg, Int.reduceAdd, Int.reduceSub, Int.reduceMul, ↓reduceIte, Int.reduceBEq, Int.reduceBNe]
  refine catalogueOf_c (σ.length + 2) 4 4 (by omega) (by omega) _ hp _ fun s1 c1 junk1 hC1 _ _ => ?_
  rw [hcav c1]
  simp -implicitDefEqProofs (maxSteps := 2000000) (disch := omega) only [go_sem, reduceCtorEq, Nat.reduceAdd, Nat.reduceSub, Nat.reduceMul, Nat.reduceLT, Nat.reduceLeDiff, Nat.reduceEqDiff, Nat.reduceBEq, Int.reduceToNat, Int.reduceLT, Int.reduceLE, Int.reduceEq, Int.reduceNeg, Int.reduceAdd, Int.reduceSub, Int.reduceMul, ↓reduceIte, Int.reduceBEq, Int.reduceBNe, length_pw, hget_pw0, hget_pw, hset_pw0, hset_pw]
  rw [← hcav c1]
  refine oldOf_c (σ.length + 2) c1 hC1 _ (hp.pw _).app _ fun s2 o1 i1 k1 n1 junk2 hO1 => ?_
  rw [pw_pwa hr]
  have hOo := hO1.ok
  have hko := okOld_of hC1 hOo
  have hsl : o1.seen.length ≤ 4294967296 := hko.1
  clear hO1
  simp only [Old.av, isv, List.append_assoc, List.cons_append, List.nil_append]
  have q4c : ∀ s l, hget (pw σ1 (σ.length + 2) s ++ l) (σ1.length + (junk1.length)) = l[junk1.length]? := fun s l => hget_pw
  simp -implicitDefEqProofs (maxSteps := 2000000) (disch := omega) only [go_sem, reduceCtorEq, Nat.reduceAdd, Nat.reduceSub, Nat.reduceMul, Nat.reduceLT, Nat.reduceLeDiff, Nat.reduceEqDiff, Nat.reduceBEq, Int.reduceToNat, Int.reduceLT, Int.reduceLE, Int.reduceEq, Int.reduceNeg, Int.reduceAdd, Int.reduceSub, Int.reduceMul, ↓reduceIte, Int.reduceBEq, Int.reduceBNe, length_pw, hget_pw0, hget_pw, hset_pw0, hset_pw, q4p, q5p, hsl]
  have := h c1 o1
  simp only [fourC, fourO, List.map_cons, List.map_nil, hcav, Old.av, isv] at this
  rw [hend]
  exact this _ hC1 hOo
end Go.Proofs
