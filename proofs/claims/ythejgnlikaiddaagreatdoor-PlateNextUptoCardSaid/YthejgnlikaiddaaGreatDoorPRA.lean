/- Texts of a proof: lemmas. -/
import Derived.Test.YthejgnlikaiddaaGreatDoorPA1
set_option linter.unusedSimpArgs false
set_option linter.unusedVariables false
set_option maxRecDepth 100000
namespace Go.Proofs
open Go Go.Mu

def rfits_s := spec3 tI tI tI fun n lo hi => some (.bool (decide (lo ≤ n ∧ n ≤ hi)))
theorem rfits_ok : ∀ xs v, rfits_s xs = some v → PureV Tryz.prog 58 xs v := by
  refine spec3_ok fun n lo hi v h => ?_
  simp only [Option.some.injEq] at h; subst h
  refine PureV.of_ev (E := Tryz.E 15 (fun _ => ([], [])) fs0) (Tryz.envOK 15 (fun _ => ([], [])) fs0 fs0_ok) (.bool) Tryz.kp58 Tryz.func58 rfl (by kernel_rfl) (by simp [Tryz.E]) (Callable.of Tryz.func58 (by kernel_rfl) (by kernel_rfl)) (by kernel_rfl) ?_
  intro σ
  simp only [tI]
  simp -implicitDefEqProofs (maxSteps := 2000000) (disch := omega) only [go_sem, reduceCtorEq, Nat.reduceAdd, Nat.reduceSub, Nat.reduceMul, Nat.reduceLT, Nat.reduceLeDiff, Nat.reduceEqDiff, Nat.reduceBEq, Int.reduceToNat, Int.reduceLT, Int.reduceLE, Int.reduceEq, Int.reduceNeg, Int.reduceAdd, Int.reduceSub, Int.reduceMul, ↓reduceIte, Int.reduceBEq, Int.reduceBNe]
  refine ⟨fun h1 => ⟨fun h2 => ?_, fun h2 => ?_⟩, fun h1 => ?_⟩ <;> simp [h1, *]
def rcount_s := spec2 tI tI fun n due => some (.int .i64 (countE n due due))
theorem rcount_ok : ∀ xs v, rcount_s xs = some v → PureV Tryz.prog 61 xs v := by
  refine spec2_ok fun n due v h => ?_
  simp only [Option.some.injEq] at h; subst h
  refine PureV.of_ev (E := Tryz.E 11 (fun _ => ([], [])) fs0) (Tryz.envOK 11 (fun _ => ([], [])) fs0 fs0_ok) (.int) Tryz.kp61 Tryz.func61 rfl (by kernel_rfl) (by simp [Tryz.E]) (Callable.of Tryz.func61 (by kernel_rfl) (by kernel_rfl)) (by kernel_rfl) ?_
  intro σ
  simp only [tI]
  simp -implicitDefEqProofs (maxSteps := 2000000) (disch := omega) only [go_sem, reduceCtorEq, Nat.reduceAdd, Nat.reduceSub, Nat.reduceMul, Nat.reduceLT, Nat.reduceLeDiff, Nat.reduceEqDiff, Nat.reduceBEq, Int.reduceToNat, Int.reduceLT, Int.reduceLE, Int.reduceEq, Int.reduceNeg, Int.reduceAdd, Int.reduceSub, Int.reduceMul, ↓reduceIte, Int.reduceBEq, Int.reduceBNe]
  simp only [countE]; grind
def fs100 (f : FuncId) (xs : List AV) : Option AV := if f = 58 then rfits_s xs else if f = 61 then rcount_s xs else fs0 f xs
theorem fs100_ok : ∀ f xs v, fs100 f xs = some v → PureV Tryz.prog f xs v := by
  intro f xs v h
  unfold fs100 at h
  split at h
  · rename_i e; subst e; exact rfits_ok _ _ h
  split at h
  · rename_i e; subst e; exact rcount_ok _ _ h
  exact fs0_ok _ _ _ h
attribute [go_sem] fs100 rfits_s rcount_s
set_option maxHeartbeats 4000000 in
theorem rcheckModel_p (c : Cat) (m : Model) (hm : okLen m) : PureV Tryz.prog 59 [c.av, m.av] (.int .i64 (ckModel c.features m)) := by
  refine PureV.of_ev (E := Tryz.E 99 Tryz.ord59 fs100) (Tryz.envOK 99 Tryz.ord59 fs100 fs100_ok) (.int) Tryz.kp59 Tryz.func59 rfl (by kernel_rfl) (by simp [Tryz.E]) (Callable.of Tryz.func59 (by kernel_rfl) (by kernel_rfl)) (by kernel_rfl) ?_
  intro σ
  obtain ⟨y, ls, ns⟩ := m
  obtain ⟨f, ms⟩ := c
  obtain ⟨h1, h2, h3⟩ := hm
  simp only at h1 h2 h3
  simp only [Model.av, Cat.av]
  simp -implicitDefEqProofs (maxSteps := 2000000) (disch := omega) only [go_sem, reduceCtorEq, Nat.reduceAdd, Nat.reduceSub, Nat.reduceMul, Nat.reduceLT, Nat.reduceLeDiff, Nat.reduceEqDiff, Nat.reduceBEq, Int.reduceToNat, Int.reduceLT, Int.reduceLE, Int.reduceEq, Int.reduceNeg, Int.reduceAdd, Int.reduceSub, Int.reduceMul, ↓reduceIte, Int.reduceBEq, Int.reduceBNe]
  have hck : ckModel f ⟨y, ls, ns⟩ = if ¬ (1800 ≤ y ∧ y ≤ 1999) then 1 else if countE ls.length 1 4 ≠ 0 then countE ls.length 1 4 else if countE ns.length ls.length ls.length ≠ 0 then countE ns.length ls.length ls.length else if firstE (fun l => ckVals l f 1) ls ≠ 0 then firstE (fun l => ckVals l f 1) ls else firstE ckNum ns := rfl
  refine ⟨fun g1 g2 => ⟨fun g3 => ?_, fun g3 => ⟨fun g4 => ?_, fun g4 => ⟨fun g5 => ?_, fun g5 => ?_⟩⟩⟩, fun g1 => ?_⟩
  · rw [hck, if_neg (by omega)]; simp only [countE]; grind
  · rw [hck, if_neg (by omega)]; simp only [countE]; grind
  · rw [hck, if_neg (by omega), if_neg (by simp only [countE]; grind), if_pos g5]
  · have hck2 : ckModel f ⟨y, ls, ns⟩ = if firstE (fun l => ckVals l f 1) ls ≠ 0 then firstE (fun l => ckVals l f 1) ls else firstE ckNum ns := by
      rw [hck, if_neg (by omega), if_neg (by simp only [countE]; grind), if_neg (by simp [g5])]
    clear hck
    refine ARun.forS (Tryz.envOK 99 Tryz.ord59 fs100 fs100_ok) ls.length (fun i => firstE (fun l => ckVals l f 1) (ls.drop i) = firstE (fun l => ckVals l f 1) ls) (fun i => [(6, .int .i64 i)]) (fun _ j => σ ++ (.cells [.int .i64 f, .list .no 3 (ms.map Model.av)] :: .cells [.int .i64 y, .list .no 1 (ls.map isv), .list .no 2 (ns.map Rng.av)] :: j)) [] (by kernel_rfl) rfl (by simp [upd, ins, subF, lookA]) (by simp) ?_ ?_
    · intro i j hi hp ih
      rw [firstE_drop hi] at hp
      have h3i := h3 _ (List.getElem_mem hi)
      have hid : idx (ls.map isv) (i : Int) = some (isv ls[i]) := idx_nat hi
      have hcv : ckVals ls[i] f 1 = if countE (ls[i].length : Int) f f ≠ 0 then countE (ls[i].length : Int) f f else firstE (ckVal 1) ls[i] := rfl
      generalize ls[i] = l at hp h3i hid hcv
      have hisl : isv l = .list .no 1 (l.map (.int .i64)) := rfl
      simp -implicitDefEqProofs (maxSteps := 2000000) (disch := omega) only [go_sem, reduceCtorEq, Nat.reduceAdd, Nat.reduceSub, Nat.reduceMul, Nat.reduceLT, Nat.reduceLeDiff, Nat.reduceEqDiff, Nat.reduceBEq, Int.reduceToNat, Int.reduceLT, Int.reduceLE, Int.reduceEq, Int.reduceNeg, Int.reduceAdd, Int.reduceSub, Int.reduceMul, ↓reduceIte, Int.reduceBEq, Int.reduceBNe, hid, hisl]
      refine ⟨fun r1 => ?_, fun r1 => ?_⟩
      · rw [if_pos r1] at hcv
        rw [hck2, ← hp, hcv, if_neg r1, if_pos r1]
      · rw [if_neg (by simpa using r1)] at hcv
        refine ARun.forS (Tryz.envOK 99 Tryz.ord59 fs100 fs100_ok) l.length (fun k => firstE (ckVal 1) (l.drop k) = firstE (ckVal 1) l) (fun k => [(8, .int .i64 k)]) (fun _ j => σ ++ (.cells [.int .i64 f, .list .no 3 (ms.map Model.av)] :: .cells [.int .i64 y, .list .no 1 (ls.map isv), .list .no 2 (ns.map Rng.av)] :: j)) j (by kernel_rfl) rfl (by simp [upd, ins, subF, lookA]) (by simp) ?_ ?_
        · intro k j hk hq ih2
          rw [firstE_drop hk] at hq
          have hlk : idx (l.map (AV.int .i64)) (k : Int) = some (.int .i64 l[k]) := idx_nat hk
          have hv1 : ckVal 1 l[k] = if 1 ≤ l[k] ∧ l[k] ≤ 3 then 0 else 1 := rfl
          generalize l[k] = x at hq hlk hv1
          simp -implicitDefEqProofs (maxSteps := 2000000) (disch := omega) only [go_sem, reduceCtorEq, Nat.reduceAdd, Nat.reduceSub, Nat.reduceMul, Nat.reduceLT, Nat.reduceLeDiff, Nat.reduceEqDiff, Nat.reduceBEq, Int.reduceToNat, Int.reduceLT, Int.reduceLE, Int.reduceEq, Int.reduceNeg, Int.reduceAdd, Int.reduceSub, Int.reduceMul, ↓reduceIte, Int.reduceBEq, Int.reduceBNe, hid, hisl, hlk]
          refine ⟨fun r2 => ?_, fun r2 => ?_⟩
          · first
              | (rw [if_neg (by intro e; exact r2 e.1 e.2)] at hv1
                 rw [hv1] at hq
                 rw [hck2, ← hp, hcv, ← hq]; simp)
              | (intro r3
                 rw [if_pos ⟨r2, r3⟩] at hv1
                 rw [hv1] at hq
                 exact (ih2 (by simpa using hq) j).castS rfl (by simp [upd, ins, subF, lookA]))
          · first
              | (rw [if_neg (by intro e; exact r2 e)] at hv1
                 rw [hv1] at hq
                 rw [hck2, ← hp, hcv, ← hq]; simp)
              | (rw [if_pos r2] at hv1
                 rw [hv1] at hq
                 exact (ih2 (by simpa using hq) j).castS rfl (by simp [upd, ins, subF, lookA]))
        · intro j hq
          rw [firstE_end] at hq
          rw [← hq] at hcv
          simp -implicitDefEqProofs (maxSteps := 2000000) (disch := omega) only [go_sem, reduceCtorEq, Nat.reduceAdd, Nat.reduceSub, Nat.reduceMul, Nat.reduceLT, Nat.reduceLeDiff, Nat.reduceEqDiff, Nat.reduceBEq, Int.reduceToNat, Int.reduceLT, Int.reduceLE, Int.reduceEq, Int.reduceNeg, Int.reduceAdd, Int.reduceSub, Int.reduceMul, ↓reduceIte, Int.reduceBEq, Int.reduceBNe, hid, hisl]
          exact (ih (by rw [hcv] at hp; simpa using hp) j).castS rfl (by simp [upd, ins, subF, lookA])
    · intro j hp
      rw [firstE_end] at hp
      rw [← hp, if_neg (by simp)] at hck2
      clear hp
      simp -implicitDefEqProofs (maxSteps := 2000000) (disch := omega) only [go_sem, reduceCtorEq, Nat.reduceAdd, Nat.reduceSub, Nat.reduceMul, Nat.reduceLT, Nat.reduceLeDiff, Nat.reduceEqDiff, Nat.reduceBEq, Int.reduceToNat, Int.reduceLT, Int.reduceLE, Int.reduceEq, Int.reduceNeg, Int.reduceAdd, Int.reduceSub, Int.reduceMul, ↓reduceIte, Int.reduceBEq, Int.reduceBNe]
      refine ARun.forS (Tryz.envOK 99 Tryz.ord59 fs100 fs100_ok) ns.length (fun i => firstE ckNum (ns.drop i) = firstE ckNum ns) (fun i => [(9, .int .i64 i)]) (fun _ j => σ ++ (.cells [.int .i64 f, .list .no 3 (ms.map Model.av)] :: .cells [.int .i64 y, .list .no 1 (ls.map isv), .list .no 2 (ns.map Rng.av)] :: j)) j (by kernel_rfl) rfl (by simp [upd, ins, subF, lookA]) (by simp) ?_ ?_
      · intro i j hi hp2 ih
        rw [firstE_drop hi] at hp2
        have hid : idx (ns.map Rng.av) (i : Int) = some ns[i].av := idx_nat hi
        have hnu : ckNum ns[i] = if ¬ (0 ≤ ns[i].lo ∧ ns[i].lo ≤ 9999) then 1 else if ¬ (0 ≤ ns[i].hi ∧ ns[i].hi ≤ 9999) then 1 else if ns[i].lo > ns[i].hi then 5 else 0 := rfl
        generalize ns[i] = x at hp2 hid hnu
        have hx : x.av = .agg [.int .i64 x.lo, .int .i64 x.hi] := rfl
        generalize x.lo = a at hnu hx
        generalize x.hi = b at hnu hx
        by_cases q1 : 0 ≤ a ∧ a ≤ 9999
        · by_cases q2 : 0 ≤ b ∧ b ≤ 9999
          · by_cases q3 : a > b
            · have : ckNum x = 5 := by rw [hnu, if_neg (by simp [q1]), if_neg (by simp [q2]), if_pos q3]
              rw [this] at hp2
              simp -implicitDefEqProofs (maxSteps := 2000000) (disch := omega) only [go_sem, reduceCtorEq, Nat.reduceAdd, Nat.reduceSub, Nat.reduceMul, Nat.reduceLT, Nat.reduceLeDiff, Nat.reduceEqDiff, Nat.reduceBEq, Int.reduceToNat, Int.reduceLT, Int.reduceLE, Int.reduceEq, Int.reduceNeg, Int.reduceAdd, Int.reduceSub, Int.reduceMul, ↓reduceIte, Int.reduceBEq, Int.reduceBNe, hid, hx, q1, q2]
              try (rw [hck2]; simpa using hp2)
            · have : ckNum x = 0 := by rw [hnu, if_neg (by simp [q1]), if_neg (by simp [q2]), if_neg q3]
              rw [this] at hp2
              simp -implicitDefEqProofs (maxSteps := 2000000) (disch := omega) only [go_sem, reduceCtorEq, Nat.reduceAdd, Nat.reduceSub, Nat.reduceMul, Nat.reduceLT, Nat.reduceLeDiff, Nat.reduceEqDiff, Nat.reduceBEq, Int.reduceToNat, Int.reduceLT, Int.reduceLE, Int.reduceEq, Int.reduceNeg, Int.reduceAdd, Int.reduceSub, Int.reduceMul, ↓reduceIte, Int.reduceBEq, Int.reduceBNe, hid, hx, q1, q2]
              exact (ih (by simpa using hp2) (j ++ [_])).castS rfl (by simp [upd, ins, subF, lookA])
          · have : ckNum x = 1 := by rw [hnu, if_neg (by simp [q1]), if_pos q2]
            rw [this] at hp2
            simp -implicitDefEqProofs (maxSteps := 2000000) (disch := omega) only [go_sem, reduceCtorEq, Nat.reduceAdd, Nat.reduceSub, Nat.reduceMul, Nat.reduceLT, Nat.reduceLeDiff, Nat.reduceEqDiff, Nat.reduceBEq, Int.reduceToNat, Int.reduceLT, Int.reduceLE, Int.reduceEq, Int.reduceNeg, Int.reduceAdd, Int.reduceSub, Int.reduceMul, ↓reduceIte, Int.reduceBEq, Int.reduceBNe, hid, hx, q1, q2]
            try (rw [hck2]; simpa using hp2)
        · have : ckNum x = 1 := by rw [hnu, if_pos q1]
          rw [this] at hp2
          simp -implicitDefEqProofs (maxSteps := 2000000) (disch := omega) only [go_sem, reduceCtorEq, Nat.reduceAdd, Nat.reduceSub, Nat.reduceMul, Nat.reduceLT, Nat.reduceLeDiff, Nat.reduceEqDiff, Nat.reduceBEq, Int.reduceToNat, Int.reduceLT, Int.reduceLE, Int.reduceEq, Int.reduceNeg, Int.reduceAdd, Int.reduceSub, Int.reduceMul, ↓reduceIte, Int.reduceBEq, Int.reduceBNe, hid, hx, q1]
          try (rw [hck2]; simpa using hp2)
      · intro j hp2
        rw [firstE_end] at hp2
        rw [hck2, ← hp2]
        simp -implicitDefEqProofs (maxSteps := 2000000) (disch := omega) only [go_sem, reduceCtorEq, Nat.reduceAdd, Nat.reduceSub, Nat.reduceMul, Nat.reduceLT, Nat.reduceLeDiff, Nat.reduceEqDiff, Nat.reduceBEq, Int.reduceToNat, Int.reduceLT, Int.reduceLE, Int.reduceEq, Int.reduceNeg, Int.reduceAdd, Int.reduceSub, Int.reduceMul, ↓reduceIte, Int.reduceBEq, Int.reduceBNe]
  · rw [hck, if_pos (by intro e; first | exact g1 e.1 e.2 | exact g1 e)]
instance okLenDec (m : Model) : Decidable (okLen m) := by unfold okLen; infer_instance
def rcheckModel_s := spw2 tyCat.w tyM.w fun c m => if okLen m then some (.int .i64 (ckModel c.features m)) else none
theorem rcheckModel_ok : ∀ xs v, rcheckModel_s xs = some v → PureV Tryz.prog 59 xs v :=
  spw2_ok fun c m v h => by have h := someIf h; rw [← h.2]; exact rcheckModel_p c m h.1
def fs101 (f : FuncId) (xs : List AV) : Option AV := if f = 59 then rcheckModel_s xs else fs100 f xs
theorem fs101_ok : ∀ f xs v, fs101 f xs = some v → PureV Tryz.prog f xs v := by
  intro f xs v h
  unfold fs101 at h
  split at h
  · rename_i e; subst e; exact rcheckModel_ok _ _ h
  exact fs100_ok _ _ _ h
attribute [go_sem] fs101 rcheckModel_s
set_option maxHeartbeats 4000000 in
theorem rCheck_p (c : Cat) (hc : okCat c) : PureV Tryz.prog 19 [c.av] (.int .i64 (ckCat c)) := by
  refine PureV.of_ev (E := Tryz.E 34 Tryz.ord19 fs101) (Tryz.envOK 34 Tryz.ord19 fs101 fs101_ok) (.int) Tryz.kp19 Tryz.func19 rfl (by kernel_rfl) (by simp [Tryz.E]) (Callable.of Tryz.func19 (by kernel_rfl) (by kernel_rfl)) (by kernel_rfl) ?_
  intro σ
  obtain ⟨f, ms⟩ := c
  obtain ⟨h1, h2⟩ := hc
  simp only at h1 h2
  simp only [Cat.av]
  have hck : ckCat ⟨f, ms⟩ = if ¬ (1 ≤ f ∧ f ≤ 4) then 1 else if countE ms.length 1 4 ≠ 0 then countE ms.length 1 4 else firstE (ckModel f) ms := rfl
  simp -implicitDefEqProofs (maxSteps := 2000000) (disch := omega) only [go_sem, reduceCtorEq, Nat.reduceAdd, Nat.reduceSub, Nat.reduceMul, Nat.reduceLT, Nat.reduceLeDiff, Nat.reduceEqDiff, Nat.reduceBEq, Int.reduceToNat, Int.reduceLT, Int.reduceLE, Int.reduceEq, Int.reduceNeg, Int.reduceAdd, Int.reduceSub, Int.reduceMul, ↓reduceIte, Int.reduceBEq, Int.reduceBNe]
  refine ⟨fun g1 g2 => ⟨fun g3 => ?_, fun g3 => ⟨fun g4 => ?_, fun g4 => ?_⟩⟩, fun g1 => ?_⟩
  · rw [hck, if_neg (by omega)]; simp only [countE]; grind
  · rw [hck, if_neg (by omega)]; simp only [countE]; grind
  · have hck2 : ckCat ⟨f, ms⟩ = firstE (ckModel f) ms := by
      rw [hck, if_neg (by omega), if_neg (by simp only [countE]; grind)]
    clear hck
    refine ARun.forS (Tryz.envOK 34 Tryz.ord19 fs101 fs101_ok) ms.length (fun i => firstE (ckModel f) (ms.drop i) = firstE (ckModel f) ms) (fun i => [(3, .int .i64 i)]) (fun _ j => σ ++ (.cells [.int .i64 f, .list .no 3 (ms.map Model.av)] :: j)) [] (by kernel_rfl) rfl (by simp [upd, ins, subF, lookA]) (by simp) ?_ ?_
    · intro i j hi hp ih
      rw [firstE_drop hi] at hp
      have h2i := h2 _ (List.getElem_mem hi)
      have hcl : (ms[i]).av = .agg [.int .i64 ms[i].first, .list .no 1 (ms[i].looks.map isv), .list .no 2 (ms[i].nums.map Rng.av)] := rfl
      simp -implicitDefEqProofs (maxSteps := 2000000) (disch := omega) only [go_sem, reduceCtorEq, Nat.reduceAdd, Nat.reduceSub, Nat.reduceMul, Nat.reduceLT, Nat.reduceLeDiff, Nat.reduceEqDiff, Nat.reduceBEq, Int.reduceToNat, Int.reduceLT, Int.reduceLE, Int.reduceEq, Int.reduceNeg, Int.reduceAdd, Int.reduceSub, Int.reduceMul, ↓reduceIte, Int.reduceBEq, Int.reduceBNe, hcl, Model_eta, h2i]
      refine ⟨fun r1 => ?_, fun r1 => (ih (by rw [if_pos r1] at hp; exact hp) j).castS rfl (by simp [upd, ins, subF, lookA])⟩
      rw [hck2, ← hp, if_neg r1]
    · intro j hp
      rw [firstE_end] at hp
      simp -implicitDefEqProofs (maxSteps := 2000000) (disch := omega) only [go_sem, reduceCtorEq, Nat.reduceAdd, Nat.reduceSub, Nat.reduceMul, Nat.reduceLT, Nat.reduceLeDiff, Nat.reduceEqDiff, Nat.reduceBEq, Int.reduceToNat, Int.reduceLT, Int.reduceLE, Int.reduceEq, Int.reduceNeg, Int.reduceAdd, Int.reduceSub, Int.reduceMul, ↓reduceIte, Int.reduceBEq, Int.reduceBNe]
      try rw [hck2, ← hp]
  · rw [hck, if_pos (by intro e; first | exact g1 e.1 e.2 | exact g1 e)]
def rCheck_s := spw1 tyCat.w fun c => if okCat c then some (.int .i64 (ckCat c)) else none
theorem rCheck_ok : ∀ xs v, rCheck_s xs = some v → PureV Tryz.prog 19 xs v :=
  spw1_ok fun c v h => by have h := someIf h; rw [← h.2]; exact rCheck_p c h.1
def fs102 (f : FuncId) (xs : List AV) : Option AV := if f = 19 then rCheck_s xs else fs101 f xs
theorem fs102_ok : ∀ f xs v, fs102 f xs = some v → PureV Tryz.prog f xs v := by
  intro f xs v h
  unfold fs102 at h
  split at h
  · rename_i e; subst e; exact rCheck_ok _ _ h
  exact fs101_ok _ _ _ h
attribute [go_sem] fs102 rCheck_s
set_option maxHeartbeats 4000000 in
theorem rValid_p (c : Cat) (o : Old) (hc : okCat c) (ho : okOld o) : PureV Tryz.prog 21 [c.av, o.av] (.int .i64 (ckOld c o)) := by
  refine PureV.of_ev (E := Tryz.E 77 (fun _ => ([], [])) fs102) (Tryz.envOK 77 (fun _ => ([], [])) fs102 fs102_ok) (.int) Tryz.kp21 Tryz.func21 rfl (by kernel_rfl) (by simp [Tryz.E]) (Callable.of Tryz.func21 (by kernel_rfl) (by kernel_rfl)) (by kernel_rfl) ?_
  intro σ
  obtain ⟨h1, h2⟩ := ho
  have hpl : o.plate.data.toList.length = o.plate.size := Array.length_toList
  have hisv : isv o.seen = .list .no 1 (o.seen.map (.int .i64)) := rfl
  simp only [Cat.av, Old.av]
  have hck : ckOld c o = if ckCat c ≠ 0 then ckCat c else if ckVals o.seen c.features 0 ≠ 0 then ckVals o.seen c.features 0 else if o.plate.size ≠ 0 ∧ o.plate.size ≠ 4 then 2 else if ¬ (o.plate.data.toList.all okByte = true) then 2 else if ¬ (0 ≤ o.changed ∧ o.changed ≤ 4) then 1 else 0 := rfl
  have hcv : ckVals o.seen c.features 0 = if countE (o.seen.length : Int) c.features c.features ≠ 0 then countE (o.seen.length : Int) c.features c.features else firstE (ckVal 0) o.seen := rfl
  simp -implicitDefEqProofs (maxSteps := 2000000) (disch := omega) only [go_sem, reduceCtorEq, Nat.reduceAdd, Nat.reduceSub, Nat.reduceMul, Nat.reduceLT, Nat.reduceLeDiff, Nat.reduceEqDiff, Nat.reduceBEq, Int.reduceToNat, Int.reduceLT, Int.reduceLE, Int.reduceEq, Int.reduceNeg, Int.reduceAdd, Int.reduceSub, Int.reduceMul, ↓reduceIte, Int.reduceBEq, Int.reduceBNe, hc, Cat_eta, hisv]
  refine ⟨fun g1 => ?_, fun g1 => ⟨fun g2 => ?_, fun g2 => ?_⟩⟩
  · rw [hck, if_pos g1]
  · rw [hck, if_neg (by simpa using g1), hcv, if_pos g2, if_pos g2]
  · rw [if_neg (by simpa using g1)] at hck
    rw [if_neg (by simpa using g2)] at hcv
    refine ARun.forS (Tryz.envOK 77 (fun _ => ([], [])) fs102 fs102_ok) o.seen.length (fun i => firstE (ckVal 0) (o.seen.drop i) = firstE (ckVal 0) o.seen) (fun i => [(7, .int .i64 i)]) (fun _ j => σ ++ (.cells [.int .i64 c.features, .list .no 3 (c.models.map Model.av)] :: .cells [.list .no 1 (o.seen.map (.int .i64)), .str o.plate, .int .i64 o.changed] :: j)) [] (by kernel_rfl) rfl (by simp [upd, ins, subF, lookA]) (by simp) ?_ ?_
    · intro i j hi hp ih
      rw [firstE_drop hi] at hp
      have hid : idx (o.seen.map (AV.int .i64)) (i : Int) = some (.int .i64 o.seen[i]) := idx_nat hi
      have hv1 : ckVal 0 o.seen[i] = if 0 ≤ o.seen[i] ∧ o.seen[i] ≤ 3 then 0 else 1 := rfl
      generalize o.seen[i] = x at hp hid hv1
      by_cases q : 0 ≤ x ∧ x ≤ 3
      · rw [if_pos q] at hv1
        rw [hv1] at hp
        simp -implicitDefEqProofs (maxSteps := 2000000) (disch := omega) only [go_sem, reduceCtorEq, Nat.reduceAdd, Nat.reduceSub, Nat.reduceMul, Nat.reduceLT, Nat.reduceLeDiff, Nat.reduceEqDiff, Nat.reduceBEq, Int.reduceToNat, Int.reduceLT, Int.reduceLE, Int.reduceEq, Int.reduceNeg, Int.reduceAdd, Int.reduceSub, Int.reduceMul, ↓reduceIte, Int.reduceBEq, Int.reduceBNe, hid, q]
        exact (ih (by simpa using hp) j).castS rfl (by simp [upd, ins, subF, lookA])
      · rw [if_neg q] at hv1
        rw [hv1, if_neg (by simp)] at hp
        rw [← hp] at hcv
        rw [if_pos (by rw [hcv]; simp), hcv] at hck
        simp -implicitDefEqProofs (maxSteps := 2000000) (disch := omega) only [go_sem, reduceCtorEq, Nat.reduceAdd, Nat.reduceSub, Nat.reduceMul, Nat.reduceLT, Nat.reduceLeDiff, Nat.reduceEqDiff, Nat.reduceBEq, Int.reduceToNat, Int.reduceLT, Int.reduceLE, Int.reduceEq, Int.reduceNeg, Int.reduceAdd, Int.reduceSub, Int.reduceMul, ↓reduceIte, Int.reduceBEq, Int.reduceBNe, hid, q]
        try rw [hck]
    · intro j hp
      rw [firstE_end] at hp
      rw [← hp] at hcv
      rw [if_neg (by rw [hcv]; simp)] at hck
      clear hp hcv
      simp -implicitDefEqProofs (maxSteps := 2000000) (disch := omega) only [go_sem, reduceCtorEq, Nat.reduceAdd, Nat.reduceSub, Nat.reduceMul, Nat.reduceLT, Nat.reduceLeDiff, Nat.reduceEqDiff, Nat.reduceBEq, Int.reduceToNat, Int.reduceLT, Int.reduceLE, Int.reduceEq, Int.reduceNeg, Int.reduceAdd, Int.reduceSub, Int.reduceMul, ↓reduceIte, Int.reduceBEq, Int.reduceBNe]
      refine ⟨fun q1 => ⟨fun q2 => ?_, fun q2 => ?_⟩, fun q1 => ?_⟩
      · rw [hck, if_pos (by omega)]
      · have q3 : ¬ (o.plate.size ≠ 0 ∧ o.plate.size ≠ 4) := by omega
        rw [if_neg q3] at hck
        have q4 : o.plate.size = 0 ∨ o.plate.size = 4 := by omega
        clear q1 q2 q3
        refine ARun.forS (Tryz.envOK 77 (fun _ => ([], [])) fs102 fs102_ok) o.plate.size (fun i => (o.plate.data.toList.drop i).all okByte = o.plate.data.toList.all okByte) (fun i => [(8, .int .i64 i)]) (fun _ j => σ ++ (.cells [.int .i64 c.features, .list .no 3 (c.models.map Model.av)] :: .cells [.list .no 1 (o.seen.map (.int .i64)), .str o.plate, .int .i64 o.changed] :: j)) j (by kernel_rfl) rfl (by simp [upd, ins, subF, lookA]) (by simp) ?_ ?_
        · intro i j hi hp ih
          rw [all_drop (by omega)] at hp
          have hg : o.plate[i]? = some o.plate.data.toList[i] := by
            rw [str_get hi]
            simp [List.getD, List.getElem?_eq_getElem (show i < o.plate.data.toList.length by omega)]
          have hok := @okB_byte (o.plate.data.toList[i])
          generalize o.plate.data.toList[i] = b at hp hg hok
          have hbr : ((b.toNat : Nat) : Int) ≤ 255 := by have := b.toNat_lt; omega
          have hno : okByte b = false → ckOld c o = 2 := fun h => by
            rw [h] at hp
            have : ¬ (o.plate.data.toList.all okByte = true) := by rw [← hp]; simp
            rw [hck, if_pos this]
          have hyes : okByte b = true → (o.plate.data.toList.drop (i + 1)).all okByte = o.plate.data.toList.all okByte := fun h => by rw [h] at hp; simpa using hp
          clear hp hck
          generalize hx : ((b.toNat : Nat) : Int) = x at hok hbr
          have hx2 : AV.int .u8 (b.toNat : Int) = .int .u8 x := by rw [hx]
          have hg1 : o.plate[((i : Nat) : Int).toNat]? = some b := by rw [Int.toNat_natCast]; exact hg
          by_cases r1 : x = 63
          · simp -implicitDefEqProofs (maxSteps := 2000000) (disch := omega) only [go_sem, reduceCtorEq, Nat.reduceAdd, Nat.reduceSub, Nat.reduceMul, Nat.reduceLT, Nat.reduceLeDiff, Nat.reduceEqDiff, Nat.reduceBEq, Int.reduceToNat, Int.reduceLT, Int.reduceLE, Int.reduceEq, Int.reduceNeg, Int.reduceAdd, Int.reduceSub, Int.reduceMul, ↓reduceIte, Int.reduceBEq, Int.reduceBNe, hg, hg1, hx, r1]
            exact (ih (hyes (hok.2 (by omega))) j).castS rfl (by simp [upd, ins, subF, lookA])
          · by_cases r2 : x < 48
            · simp -implicitDefEqProofs (maxSteps := 2000000) (disch := omega) only [go_sem, reduceCtorEq, Nat.reduceAdd, Nat.reduceSub, Nat.reduceMul, Nat.reduceLT, Nat.reduceLeDiff, Nat.reduceEqDiff, Nat.reduceBEq, Int.reduceToNat, Int.reduceLT, Int.reduceLE, Int.reduceEq, Int.reduceNeg, Int.reduceAdd, Int.reduceSub, Int.reduceMul, ↓reduceIte, Int.reduceBEq, Int.reduceBNe, hg, hg1, hx]
              exact (hno (Bool.eq_false_iff.2 fun h => by have := hok.1 h; omega)).symm
            · by_cases r3 : 57 < x
              · simp -implicitDefEqProofs (maxSteps := 2000000) (disch := omega) only [go_sem, reduceCtorEq, Nat.reduceAdd, Nat.reduceSub, Nat.reduceMul, Nat.reduceLT, Nat.reduceLeDiff, Nat.reduceEqDiff, Nat.reduceBEq, Int.reduceToNat, Int.reduceLT, Int.reduceLE, Int.reduceEq, Int.reduceNeg, Int.reduceAdd, Int.reduceSub, Int.reduceMul, ↓reduceIte, Int.reduceBEq, Int.reduceBNe, hg, hg1, hx]
                exact (hno (Bool.eq_false_iff.2 fun h => by have := hok.1 h; omega)).symm
              · simp -implicitDefEqProofs (maxSteps := 2000000) (disch := omega) only [go_sem, reduceCtorEq, Nat.reduceAdd, Nat.reduceSub, Nat.reduceMul, Nat.reduceLT, Nat.reduceLeDiff, Nat.reduceEqDiff, Nat.reduceBEq, Int.reduceToNat, Int.reduceLT, Int.reduceLE, Int.reduceEq, Int.reduceNeg, Int.reduceAdd, Int.reduceSub, Int.reduceMul, ↓reduceIte, Int.reduceBEq, Int.reduceBNe, hg, hg1, hx]
                exact (ih (hyes (hok.2 (by omega))) j).castS rfl (by simp [upd, ins, subF, lookA])
        · intro j hp
          have hall : o.plate.data.toList.all okByte = true := by rw [← hp, ← hpl, List.drop_length]; rfl
          rw [if_neg (by simp [hall])] at hck
          by_cases r1 : 0 ≤ o.changed ∧ o.changed ≤ 4
          · rw [if_neg (by simp [r1])] at hck
            simp -implicitDefEqProofs (maxSteps := 2000000) (disch := omega) only [go_sem, reduceCtorEq, Nat.reduceAdd, Nat.reduceSub, Nat.reduceMul, Nat.reduceLT, Nat.reduceLeDiff, Nat.reduceEqDiff, Nat.reduceBEq, Int.reduceToNat, Int.reduceLT, Int.reduceLE, Int.reduceEq, Int.reduceNeg, Int.reduceAdd, Int.reduceSub, Int.reduceMul, ↓reduceIte, Int.reduceBEq, Int.reduceBNe, r1]
            try rw [hck]
          · rw [if_pos r1] at hck
            simp -implicitDefEqProofs (maxSteps := 2000000) (disch := omega) only [go_sem, reduceCtorEq, Nat.reduceAdd, Nat.reduceSub, Nat.reduceMul, Nat.reduceLT, Nat.reduceLeDiff, Nat.reduceEqDiff, Nat.reduceBEq, Int.reduceToNat, Int.reduceLT, Int.reduceLE, Int.reduceEq, Int.reduceNeg, Int.reduceAdd, Int.reduceSub, Int.reduceMul, ↓reduceIte, Int.reduceBEq, Int.reduceBNe, r1]
            try rw [hck]
      · have q3 : ¬ (o.plate.size ≠ 0 ∧ o.plate.size ≠ 4) := by omega
        rw [if_neg q3] at hck
        have q4 : o.plate.size = 0 ∨ o.plate.size = 4 := by omega
        clear q1 q3
        refine ARun.forS (Tryz.envOK 77 (fun _ => ([], [])) fs102 fs102_ok) o.plate.size (fun i => (o.plate.data.toList.drop i).all okByte = o.plate.data.toList.all okByte) (fun i => [(8, .int .i64 i)]) (fun _ j => σ ++ (.cells [.int .i64 c.features, .list .no 3 (c.models.map Model.av)] :: .cells [.list .no 1 (o.seen.map (.int .i64)), .str o.plate, .int .i64 o.changed] :: j)) j (by kernel_rfl) rfl (by simp [upd, ins, subF, lookA]) (by simp) ?_ ?_
        · intro i j hi hp ih
          rw [all_drop (by omega)] at hp
          have hg : o.plate[i]? = some o.plate.data.toList[i] := by
            rw [str_get hi]
            simp [List.getD, List.getElem?_eq_getElem (show i < o.plate.data.toList.length by omega)]
          have hok := @okB_byte (o.plate.data.toList[i])
          generalize o.plate.data.toList[i] = b at hp hg hok
          have hbr : ((b.toNat : Nat) : Int) ≤ 255 := by have := b.toNat_lt; omega
          have hno : okByte b = false → ckOld c o = 2 := fun h => by
            rw [h] at hp
            have : ¬ (o.plate.data.toList.all okByte = true) := by rw [← hp]; simp
            rw [hck, if_pos this]
          have hyes : okByte b = true → (o.plate.data.toList.drop (i + 1)).all okByte = o.plate.data.toList.all okByte := fun h => by rw [h] at hp; simpa using hp
          clear hp hck
          generalize hx : ((b.toNat : Nat) : Int) = x at hok hbr
          have hx2 : AV.int .u8 (b.toNat : Int) = .int .u8 x := by rw [hx]
          have hg1 : o.plate[((i : Nat) : Int).toNat]? = some b := by rw [Int.toNat_natCast]; exact hg
          by_cases r1 : x = 63
          · simp -implicitDefEqProofs (maxSteps := 2000000) (disch := omega) only [go_sem, reduceCtorEq, Nat.reduceAdd, Nat.reduceSub, Nat.reduceMul, Nat.reduceLT, Nat.reduceLeDiff, Nat.reduceEqDiff, Nat.reduceBEq, Int.reduceToNat, Int.reduceLT, Int.reduceLE, Int.reduceEq, Int.reduceNeg, Int.reduceAdd, Int.reduceSub, Int.reduceMul, ↓reduceIte, Int.reduceBEq, Int.reduceBNe, hg, hg1, hx, r1]
            exact (ih (hyes (hok.2 (by omega))) j).castS rfl (by simp [upd, ins, subF, lookA])
          · by_cases r2 : x < 48
            · simp -implicitDefEqProofs (maxSteps := 2000000) (disch := omega) only [go_sem, reduceCtorEq, Nat.reduceAdd, Nat.reduceSub, Nat.reduceMul, Nat.reduceLT, Nat.reduceLeDiff, Nat.reduceEqDiff, Nat.reduceBEq, Int.reduceToNat, Int.reduceLT, Int.reduceLE, Int.reduceEq, Int.reduceNeg, Int.reduceAdd, Int.reduceSub, Int.reduceMul, ↓reduceIte, Int.reduceBEq, Int.reduceBNe, hg, hg1, hx]
              exact (hno (Bool.eq_false_iff.2 fun h => by have := hok.1 h; omega)).symm
            · by_cases r3 : 57 < x
              · simp -implicitDefEqProofs (maxSteps := 2000000) (disch := omega) only [go_sem, reduceCtorEq, Nat.reduceAdd, Nat.reduceSub, Nat.reduceMul, Nat.reduceLT, Nat.reduceLeDiff, Nat.reduceEqDiff, Nat.reduceBEq, Int.reduceToNat, Int.reduceLT, Int.reduceLE, Int.reduceEq, Int.reduceNeg, Int.reduceAdd, Int.reduceSub, Int.reduceMul, ↓reduceIte, Int.reduceBEq, Int.reduceBNe, hg, hg1, hx]
                exact (hno (Bool.eq_false_iff.2 fun h => by have := hok.1 h; omega)).symm
              · simp -implicitDefEqProofs (maxSteps := 2000000) (disch := omega) only [go_sem, reduceCtorEq, Nat.reduceAdd, Nat.reduceSub, Nat.reduceMul, Nat.reduceLT, Nat.reduceLeDiff, Nat.reduceEqDiff, Nat.reduceBEq, Int.reduceToNat, Int.reduceLT, Int.reduceLE, Int.reduceEq, Int.reduceNeg, Int.reduceAdd, Int.reduceSub, Int.reduceMul, ↓reduceIte, Int.reduceBEq, Int.reduceBNe, hg, hg1, hx]
                exact (ih (hyes (hok.2 (by omega))) j).castS rfl (by simp [upd, ins, subF, lookA])
        · intro j hp
          have hall : o.plate.data.toList.all okByte = true := by rw [← hp, ← hpl, List.drop_length]; rfl
          rw [if_neg (by simp [hall])] at hck
          by_cases r1 : 0 ≤ o.changed ∧ o.changed ≤ 4
          · rw [if_neg (by simp [r1])] at hck
            simp -implicitDefEqProofs (maxSteps := 2000000) (disch := omega) only [go_sem, reduceCtorEq, Nat.reduceAdd, Nat.reduceSub, Nat.reduceMul, Nat.reduceLT, Nat.reduceLeDiff, Nat.reduceEqDiff, Nat.reduceBEq, Int.reduceToNat, Int.reduceLT, Int.reduceLE, Int.reduceEq, Int.reduceNeg, Int.reduceAdd, Int.reduceSub, Int.reduceMul, ↓reduceIte, Int.reduceBEq, Int.reduceBNe, r1]
            try rw [hck]
          · rw [if_pos r1] at hck
            simp -implicitDefEqProofs (maxSteps := 2000000) (disch := omega) only [go_sem, reduceCtorEq, Nat.reduceAdd, Nat.reduceSub, Nat.reduceMul, Nat.reduceLT, Nat.reduceLeDiff, Nat.reduceEqDiff, Nat.reduceBEq, Int.reduceToNat, Int.reduceLT, Int.reduceLE, Int.reduceEq, Int.reduceNeg, Int.reduceAdd, Int.reduceSub, Int.reduceMul, ↓reduceIte, Int.reduceBEq, Int.reduceBNe, r1]
            try rw [hck]
def rValid_s := spw2 tyCat.w tyOld.w fun c o => if okCat c ∧ okOld o then some (.int .i64 (ckOld c o)) else none
theorem rValid_ok : ∀ xs v, rValid_s xs = some v → PureV Tryz.prog 21 xs v :=
  spw2_ok fun c o v h => by have h := someIf h; rw [← h.2]; exact rValid_p c o h.1.1 h.1.2
def fs103 (f : FuncId) (xs : List AV) : Option AV := if f = 21 then rValid_s xs else fs102 f xs
theorem fs103_ok : ∀ f xs v, fs103 f xs = some v → PureV Tryz.prog f xs v := by
  intro f xs v h
  unfold fs103 at h
  split at h
  · rename_i e; subst e; exact rValid_ok _ _ h
  exact fs102_ok _ _ _ h
attribute [go_sem] fs103 rValid_s
end Go.Proofs
