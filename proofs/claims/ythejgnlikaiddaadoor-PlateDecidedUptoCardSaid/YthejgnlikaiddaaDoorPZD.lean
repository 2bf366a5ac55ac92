/- Texts of a proof: lemmas. -/
import Derived.Test.YthejgnlikaiddaaDoorPZB
set_option linter.unusedSimpArgs false
set_option linter.unusedVariables false
set_option maxRecDepth 100000
namespace Go.Proofs
open Go Go.Mu

theorem cloneV_c (l : List Int) (h0 : l ≠ []) (hl : l.length ≤ 4294967296) (σ : List AObj) (Q : AV → List AObj → Prop) (h : Q (.vec σ.length l.length) (σ ++ [.vec 1 (l.map (.int .i64))])) :
    ACalls Tryd.prog 66 [.list .no 1 (l.map (.int .i64))] σ Q := by
  refine ACalls.of_ev (E := Tryd.Ev 8 (fun _ => ([], [])) fs0) (Tryd.envOKV 8 (fun _ => ([], [])) fs0 fs0_ok) Tryd.kp66 Tryd.func66 rfl (by kernel_rfl) (by simp [Tryd.Ev]) (Callable.of Tryd.func66 (by kernel_rfl) (by kernel_rfl)) (by kernel_rfl) ?_
  simp -implicitDefEqProofs (maxSteps := 2000000) (disch := omega) only [go_sem, reduceCtorEq, Nat.reduceAdd, Nat.reduceSub, Nat.reduceMul, Nat.reduceLT, Nat.reduceLeDiff, Nat.reduceEqDiff, Nat.reduceBEq, Int.reduceToNat, Int.reduceLT, Int.reduceLE, Int.reduceEq, Int.reduceNeg, Int.reduceAdd, Int.reduceSub, Int.reduceMul, ↓reduceIte, Int.reduceBEq, Int.reduceBNe]
  refine ⟨h, fun e => ?_⟩
  have : l.length ≠ 0 := fun h => h0 (List.length_eq_zero_iff.1 h)
  simp at e; exact absurd e (by simpa using h0)
theorem index_c {g : FuncId} {p q : List AV} {σ : List AObj} (num : Made → Bool) (l : List Made) (hl2 : l.length ≤ 4294967296) (hn : ∀ x ∈ l, ClV Tryd.prog g p q σ [x.av] (.bool (num x))) (Q : AV → List AObj → Prop) (h : ∀ k : Int, (0 ≤ k ∧ l.any num = true ∨ k = -1 ∧ l.any num = false) → Q (.int .i64 k) σ) :
    ACalls Tryd.prog 83 [.list .no 8 (l.map Made.av), .fn (.func g) p q] σ Q := by
  refine ACalls.of_ev (E := Tryd.E 19 (fun _ => ([], [])) fs0) (Tryd.envOK 19 (fun _ => ([], [])) fs0 fs0_ok) Tryd.kp83 Tryd.func83 rfl (by kernel_rfl) (by simp [Tryd.E]) (Callable.of Tryd.func83 (by kernel_rfl) (by kernel_rfl)) (by kernel_rfl) ?_
  simp -implicitDefEqProofs (maxSteps := 2000000) (disch := omega) only [go_sem, reduceCtorEq, Nat.reduceAdd, Nat.reduceSub, Nat.reduceMul, Nat.reduceLT, Nat.reduceLeDiff, Nat.reduceEqDiff, Nat.reduceBEq, Int.reduceToNat, Int.reduceLT, Int.reduceLE, Int.reduceEq, Int.reduceNeg, Int.reduceAdd, Int.reduceSub, Int.reduceMul, ↓reduceIte, Int.reduceBEq, Int.reduceBNe]
  refine ARun.forS (Tryd.envOK 19 (fun _ => ([], [])) fs0 fs0_ok) l.length (fun i => (l.drop i).any num = l.any num) (fun i => [(8, .int .i64 i)]) (fun i j => σ) [] (by kernel_rfl) rfl (by simp [upd, ins, subF, lookA]) (by simp) ?_ ?_
  · intro i j hi hp ih
    have hli : idx (l.map Made.av) (i : Int) = some l[i].av := idx_nat hi
    rw [drop_cons hi, List.any_cons] at hp
    have hcl := hn l[i] (by simp)
    have hma : l[i].av = .agg [.int .i64 l[i].model, .int .i64 l[i].year, .int .i64 l[i].a, .int .i64 l[i].b, .int .i64 l[i].c, .int .i64 l[i].d, .int .i64 l[i].nums.lo, .int .i64 l[i].nums.hi] := rfl
    generalize l[i] = m at hli hp hcl hma
    simp -implicitDefEqProofs (maxSteps := 2000000) (disch := omega) only [go_sem, reduceCtorEq, Nat.reduceAdd, Nat.reduceSub, Nat.reduceMul, Nat.reduceLT, Nat.reduceLeDiff, Nat.reduceEqDiff, Nat.reduceBEq, Int.reduceToNat, Int.reduceLT, Int.reduceLE, Int.reduceEq, Int.reduceNeg, Int.reduceAdd, Int.reduceSub, Int.reduceMul, ↓reduceIte, Int.reduceBEq, Int.reduceBNe, hli, hma]
    rw [← hma]
    refine hcl.app0 ?_
    cases hb : num m
    · rw [hb, Bool.false_or] at hp
      simp -implicitDefEqProofs (maxSteps := 2000000) (disch := omega) only [go_sem, reduceCtorEq, Nat.reduceAdd, Nat.reduceSub, Nat.reduceMul, Nat.reduceLT, Nat.reduceLeDiff, Nat.reduceEqDiff, Nat.reduceBEq, Int.reduceToNat, Int.reduceLT, Int.reduceLE, Int.reduceEq, Int.reduceNeg, Int.reduceAdd, Int.reduceSub, Int.reduceMul, ↓reduceIte, Int.reduceBEq, Int.reduceBNe]
      exact (ih hp []).castS rfl (by simp [upd, ins, subF, lookA])
    · rw [hb, Bool.true_or] at hp
      simp -implicitDefEqProofs (maxSteps := 2000000) (disch := omega) only [go_sem, reduceCtorEq, Nat.reduceAdd, Nat.reduceSub, Nat.reduceMul, Nat.reduceLT, Nat.reduceLeDiff, Nat.reduceEqDiff, Nat.reduceBEq, Int.reduceToNat, Int.reduceLT, Int.reduceLE, Int.reduceEq, Int.reduceNeg, Int.reduceAdd, Int.reduceSub, Int.reduceMul, ↓reduceIte, Int.reduceBEq, Int.reduceBNe]
      exact h _ (.inl ⟨by omega, hp.symm⟩)
  · intro j hp
    rw [List.drop_length] at hp
    simp -implicitDefEqProofs (maxSteps := 2000000) (disch := omega) only [go_sem, reduceCtorEq, Nat.reduceAdd, Nat.reduceSub, Nat.reduceMul, Nat.reduceLT, Nat.reduceLeDiff, Nat.reduceEqDiff, Nat.reduceBEq, Int.reduceToNat, Int.reduceLT, Int.reduceLE, Int.reduceEq, Int.reduceNeg, Int.reduceAdd, Int.reduceSub, Int.reduceMul, ↓reduceIte, Int.reduceBEq, Int.reduceBNe]
    exact h _ (.inr ⟨rfl, hp.symm⟩)
theorem contains_c {g : FuncId} {p q : List AV} {σ : List AObj} (num : Made → Bool) (l : List Made) (hl2 : l.length ≤ 4294967296) (hn : ∀ x ∈ l, ClV Tryd.prog g p q σ [x.av] (.bool (num x))) (Q : AV → List AObj → Prop) (h : Q (.bool (l.any num)) σ) :
    ACalls Tryd.prog 64 [.list .no 8 (l.map Made.av), .fn (.func g) p q] σ Q := by
  refine ACalls.of_ev (E := Tryd.E 9 (fun _ => ([], [])) fs0) (Tryd.envOK 9 (fun _ => ([], [])) fs0 fs0_ok) Tryd.kp64 Tryd.func64 rfl (by kernel_rfl) (by simp [Tryd.E]) (Callable.of Tryd.func64 (by kernel_rfl) (by kernel_rfl)) (by kernel_rfl) ?_
  simp -implicitDefEqProofs (maxSteps := 2000000) (disch := omega) only [go_sem, reduceCtorEq, Nat.reduceAdd, Nat.reduceSub, Nat.reduceMul, Nat.reduceLT, Nat.reduceLeDiff, Nat.reduceEqDiff, Nat.reduceBEq, Int.reduceToNat, Int.reduceLT, Int.reduceLE, Int.reduceEq, Int.reduceNeg, Int.reduceAdd, Int.reduceSub, Int.reduceMul, ↓reduceIte, Int.reduceBEq, Int.reduceBNe]
  refine index_c num l hl2 hn _ fun k hk => ?_
  rcases hk with ⟨h1, h2⟩ | ⟨h1, h2⟩
  · rw [h2] at h
    simp -implicitDefEqProofs (maxSteps := 2000000) (disch := omega) only [go_sem, reduceCtorEq, Nat.reduceAdd, Nat.reduceSub, Nat.reduceMul, Nat.reduceLT, Nat.reduceLeDiff, Nat.reduceEqDiff, Nat.reduceBEq, Int.reduceToNat, Int.reduceLT, Int.reduceLE, Int.reduceEq, Int.reduceNeg, Int.reduceAdd, Int.reduceSub, Int.reduceMul, ↓reduceIte, Int.reduceBEq, Int.reduceBNe]
    exact h
  · rw [h2] at h
    subst h1
    simp -implicitDefEqProofs (maxSteps := 2000000) (disch := omega) only [go_sem, reduceCtorEq, Nat.reduceAdd, Nat.reduceSub, Nat.reduceMul, Nat.reduceLT, Nat.reduceLeDiff, Nat.reduceEqDiff, Nat.reduceBEq, Int.reduceToNat, Int.reduceLT, Int.reduceLE, Int.reduceEq, Int.reduceNeg, Int.reduceAdd, Int.reduceSub, Int.reduceMul, ↓reduceIte, Int.reduceBEq, Int.reduceBNe]
    exact h
theorem Found1_v {σ : List AObj} {r r2 : Nat} {f v : Int} (hg : hget σ r = some (.cells [.int .i64 f])) (hg2 : hget σ r2 = some (.cells [.int .i64 v])) (h0 : 0 ≤ f) (h1 : f < 4) (x : Made) :
    ClV Tryd.prog 65 [] [.ptr r 0, .ptr r2 0] σ [x.av] (.bool (decide (tg x.look f = v))) := by
  intro σ' hl' hs' Q hq
  have hg' : ∀ l, hget (σ' ++ l) r = some _ := fun l => by rw [hget_app (by have := hget_lt hg; omega), hs' _ (hget_lt hg)]; exact hg
  have hg2' : ∀ l, hget (σ' ++ l) r2 = some _ := fun l => by rw [hget_app (by have := hget_lt hg2; omega), hs' _ (hget_lt hg2)]; exact hg2
  have hlk : x.look = [x.a, x.b, x.c, x.d] := rfl
  rw [hlk] at hq
  have h4 := @get4I x.a x.b x.c x.d f h0 h1
  have h5 : [AV.int .i64 x.model, .int .i64 x.year, .int .i64 x.a, .int .i64 x.b, .int .i64 x.c, .int .i64 x.d, .int .i64 x.nums.lo, .int .i64 x.nums.hi][2 + f.toNat]? = some (.int .i64 (tg [x.a, x.b, x.c, x.d] f)) := by
    rw [← h4]
    have : f.toNat < 4 := by omega
    have : f.toNat = 0 ∨ f.toNat = 1 ∨ f.toNat = 2 ∨ f.toNat = 3 := by omega
    rcases this with e | e | e | e <;> rw [e] <;> rfl
  simp only [List.nil_append, List.cons_append, Made.av]
  refine ACalls.clean_ev (E := Tryd.E 11 Tryd.ord65 fs0) (Tryd.envOK 11 Tryd.ord65 fs0 fs0_ok) (.bool _) (hq) Tryd.kp65 Tryd.func65 rfl (by kernel_rfl) (by simp [Tryd.E]) (Callable.of Tryd.func65 (by kernel_rfl) (by kernel_rfl)) (by kernel_rfl) ?_
  generalize tg [x.a, x.b, x.c, x.d] f = y at h5 ⊢
  by_cases hy : y = v
  · simp -implicitDefEqProofs (maxSteps := 2000000) (disch := omega) only [go_sem, reduceCtorEq, Nat.reduceAdd, Nat.reduceSub, Nat.reduceMul, Nat.reduceLT, Nat.reduceLeDiff, Nat.reduceEqDiff, Nat.reduceBEq, Int.reduceToNat, Int.reduceLT, Int.reduceLE, Int.reduceEq, Int.reduceNeg, Int.reduceAdd, Int.reduceSub, Int.reduceMul, ↓reduceIte, Int.reduceBEq, Int.reduceBNe, hg', hg2', h5]
    try simp [hy]
  · simp -implicitDefEqProofs (maxSteps := 2000000) (disch := omega) only [go_sem, reduceCtorEq, Nat.reduceAdd, Nat.reduceSub, Nat.reduceMul, Nat.reduceLT, Nat.reduceLeDiff, Nat.reduceEqDiff, Nat.reduceBEq, Int.reduceToNat, Int.reduceLT, Int.reduceLE, Int.reduceEq, Int.reduceNeg, Int.reduceAdd, Int.reduceSub, Int.reduceMul, ↓reduceIte, Int.reduceBEq, Int.reduceBNe, hg', hg2', h5]
    try simp [hy]
/-- What an instrument is behind a find. -/
def foundM (c : Cat) (o : Old) (f v : Int) : Old × Int :=
  if ckOld c o ≠ 0 then (⟨[], ByteArray.empty, 0⟩, ckOld c o)
  else if featE c f ≠ 0 then (⟨[], ByteArray.empty, 0⟩, featE c f)
  else if tg o.seen f ≠ 0 then (⟨[], ByteArray.empty, 0⟩, 5)
  else if ¬ (1 ≤ v ∧ v ≤ 3) then (⟨[], ByteArray.empty, 0⟩, 1)
  else if (truthsM c o).any (fun m => decide (tg m.look f = v)) = false then (⟨[], ByteArray.empty, 0⟩, 9)
  else (⟨o.seen.set f.toNat v, o.plate, o.changed⟩, 0)
set_option maxHeartbeats 4000000 in
theorem found_c (c : Cat) (o : Old) (f v : Int) (hc : okCat c) (ho : okOld o) (hf : -4294967296 ≤ c.features ∧ c.features ≤ 4294967296) (σ : List AObj) (Q : AV → List AObj → Prop) (h : ∀ junk, Q (.tup [(foundM c o f v).1.av, .int .i64 (foundM c o f v).2]) (σ ++ junk)) :
    ACalls Tryd.prog 24 [c.av, o.av, .int .i64 f, .int .i64 v] σ Q := by
  refine ACalls.wkW ?_
  refine ACalls.of_evN 35 (E := Tryd.Ev 56 (fun _ => ([], [])) fs21) (Tryd.envOKV 56 (fun _ => ([], [])) fs21 fs21_ok) Tryd.kp24 Tryd.func24 rfl (by kernel_rfl) (by simp [Tryd.Ev]) (Callable.of Tryd.func24 (by kernel_rfl) (by kernel_rfl)) (by kernel_rfl) ?_
  simp only [Cat.av, Old.av]
  by_cases hv : ckOld c o = 0
  · obtain ⟨hC, hO⟩ := okO_of_ck hv
    have hs4 := seen_len hC hO
    by_cases hfe : featE c f = 0
    · have hfr : 0 ≤ f ∧ f ≤ c.features - 1 := by
        unfold featE at hfe; split at hfe
        · assumption
        · cases hfe
      have hfS : f.toNat < o.seen.length := by have := hO.seen.1; omega
      have hidx : idx (o.seen.map (AV.int .i64)) f = some (.int .i64 (tg o.seen f)) := by
        obtain ⟨n, rfl⟩ : ∃ n : Nat, f = n := ⟨f.toNat, by omega⟩
        rw [Int.toNat_natCast] at hfS
        rw [idx_nat hfS, tgE hfS]
      have hisv : isv o.seen = .list .no 1 (o.seen.map (.int .i64)) := rfl
      by_cases hz : tg o.seen f = 0
      · by_cases hvr : 1 ≤ v ∧ v ≤ 3
        · have hlen := truthsM_len (o := o) hC
          have hr : foundM c o f v = if (truthsM c o).any (fun m => decide (tg m.look f = v)) = false then (⟨[], ByteArray.empty, 0⟩, 9) else (⟨o.seen.set f.toNat v, o.plate, o.changed⟩, 0) := by
            unfold foundM; rw [if_neg (by simp [hv]), if_neg (by simp [hfe]), if_neg (by simp [hz]), if_neg (by simp [hvr])]
          simp -implicitDefEqProofs (maxSteps := 2000000) (disch := omega) only [go_sem, reduceCtorEq, Nat.reduceAdd, Nat.reduceSub, Nat.reduceMul, Nat.reduceLT, Nat.reduceLeDiff, Nat.reduceEqDiff, Nat.reduceBEq, Int.reduceToNat, Int.reduceLT, Int.reduceLE, Int.reduceEq, Int.reduceNeg, Int.reduceAdd, Int.reduceSub, Int.reduceMul, ↓reduceIte, Int.reduceBEq, Int.reduceBNe, Cat_eta, Old_eta, hc, ho, hv, hfe, hidx, hisv, hC, hO, hvr]
          refine contains_c (fun m => decide (tg m.look f = v)) _ (by omega) (fun x _ => Found1_v hget_at (hget_at (k := 3)) hfr.1 (by have := hC.features; omega) x) _ ?_
          cases hb : (truthsM c o).any (fun m => decide (tg m.look f = v))
          · rw [hb, if_pos rfl] at hr
            rw [hr] at h
            simp -implicitDefEqProofs (maxSteps := 2000000) (disch := omega) only [go_sem, reduceCtorEq, Nat.reduceAdd, Nat.reduceSub, Nat.reduceMul, Nat.reduceLT, Nat.reduceLeDiff, Nat.reduceEqDiff, Nat.reduceBEq, Int.reduceToNat, Int.reduceLT, Int.reduceLE, Int.reduceEq, Int.reduceNeg, Int.reduceAdd, Int.reduceSub, Int.reduceMul, ↓reduceIte, Int.reduceBEq, Int.reduceBNe, hb]
            exact ⟨_, wk_weak (by simp [wk, wkL, wk1, wk0, Old.av, isv]), h _⟩
          · rw [hb, if_neg (by simp)] at hr
            rw [hr] at h
            simp -implicitDefEqProofs (maxSteps := 2000000) (disch := omega) only [go_sem, reduceCtorEq, Nat.reduceAdd, Nat.reduceSub, Nat.reduceMul, Nat.reduceLT, Nat.reduceLeDiff, Nat.reduceEqDiff, Nat.reduceBEq, Int.reduceToNat, Int.reduceLT, Int.reduceLE, Int.reduceEq, Int.reduceNeg, Int.reduceAdd, Int.reduceSub, Int.reduceMul, ↓reduceIte, Int.reduceBEq, Int.reduceBNe]
            refine cloneV_c o.seen (fun e => by rw [e] at hfS; simp at hfS) (by omega) _ _ ?_
            have hst : (o.seen.map (AV.int .i64)).set f.toNat (.int .i64 v) = (o.seen.set f.toNat v).map (.int .i64) := by rw [List.map_set]
            simp -implicitDefEqProofs (maxSteps := 2000000) (disch := omega) only [go_sem, reduceCtorEq, Nat.reduceAdd, Nat.reduceSub, Nat.reduceMul, Nat.reduceLT, Nat.reduceLeDiff, Nat.reduceEqDiff, Nat.reduceBEq, Int.reduceToNat, Int.reduceLT, Int.reduceLE, Int.reduceEq, Int.reduceNeg, Int.reduceAdd, Int.reduceSub, Int.reduceMul, ↓reduceIte, Int.reduceBEq, Int.reduceBNe, hst]
            change ARun _ _ _ _ _ _
            refine ARun.freezeK (σ.length + 1) 0 (r := σ.length + 5) (n := o.seen.length) (sz := 1) (xs := (o.seen.set f.toNat v).map (.int .i64)) (cs := [.vec (σ.length + 5) o.seen.length, .str o.plate, .int .i64 o.changed]) (by rw [hget_at]; rfl) rfl (by rw [hget_at]; rfl) (by simp) ?_
            simp only [hset_at, List.set_cons_succ, List.set_cons_zero]
            refine ev_sound (Tryd.envOKV 56 (fun _ => ([], [])) fs21 fs21_ok) (n := 1000) (by kernel_rfl) ?_
            simp -implicitDefEqProofs (maxSteps := 2000000) (disch := omega) only [go_sem, reduceCtorEq, Nat.reduceAdd, Nat.reduceSub, Nat.reduceMul, Nat.reduceLT, Nat.reduceLeDiff, Nat.reduceEqDiff, Nat.reduceBEq, Int.reduceToNat, Int.reduceLT, Int.reduceLE, Int.reduceEq, Int.reduceNeg, Int.reduceAdd, Int.reduceSub, Int.reduceMul, ↓reduceIte, Int.reduceBEq, Int.reduceBNe]
            exact ⟨_, wk_weak (by simp [wk, wkL, wk1, wk0, Old.av, isv]), h _⟩
        · have hr : foundM c o f v = (⟨[], ByteArray.empty, 0⟩, 1) := by
            unfold foundM; rw [if_neg (by simp [hv]), if_neg (by simp [hfe]), if_neg (by simp [hz]), if_pos hvr]
          rw [hr] at h
          simp -implicitDefEqProofs (maxSteps := 2000000) (disch := omega) only [go_sem, reduceCtorEq, Nat.reduceAdd, Nat.reduceSub, Nat.reduceMul, Nat.reduceLT, Nat.reduceLeDiff, Nat.reduceEqDiff, Nat.reduceBEq, Int.reduceToNat, Int.reduceLT, Int.reduceLE, Int.reduceEq, Int.reduceNeg, Int.reduceAdd, Int.reduceSub, Int.reduceMul, ↓reduceIte, Int.reduceBEq, Int.reduceBNe, Cat_eta, Old_eta, hc, ho, hv, hfe, hidx, hisv, hC, hO, hvr]
          exact ⟨_, wk_weak (by simp [wk, wkL, wk1, wk0, Old.av, isv]), h _⟩
      · have hr : foundM c o f v = (⟨[], ByteArray.empty, 0⟩, 5) := by
          unfold foundM; rw [if_neg (by simp [hv]), if_neg (by simp [hfe]), if_pos hz]
        rw [hr] at h
        simp -implicitDefEqProofs (maxSteps := 2000000) (disch := omega) only [go_sem, reduceCtorEq, Nat.reduceAdd, Nat.reduceSub, Nat.reduceMul, Nat.reduceLT, Nat.reduceLeDiff, Nat.reduceEqDiff, Nat.reduceBEq, Int.reduceToNat, Int.reduceLT, Int.reduceLE, Int.reduceEq, Int.reduceNeg, Int.reduceAdd, Int.reduceSub, Int.reduceMul, ↓reduceIte, Int.reduceBEq, Int.reduceBNe, Cat_eta, Old_eta, hc, ho, hv, hfe, hidx, hisv, hC, hO]
        exact ⟨_, wk_weak (by simp [wk, wkL, wk1, wk0, Old.av, isv]), h _⟩
    · have hr : foundM c o f v = (⟨[], ByteArray.empty, 0⟩, featE c f) := by
        unfold foundM; rw [if_neg (by simp [hv]), if_pos hfe]
      rw [hr] at h
      simp -implicitDefEqProofs (maxSteps := 2000000) (disch := omega) only [go_sem, reduceCtorEq, Nat.reduceAdd, Nat.reduceSub, Nat.reduceMul, Nat.reduceLT, Nat.reduceLeDiff, Nat.reduceEqDiff, Nat.reduceBEq, Int.reduceToNat, Int.reduceLT, Int.reduceLE, Int.reduceEq, Int.reduceNeg, Int.reduceAdd, Int.reduceSub, Int.reduceMul, ↓reduceIte, Int.reduceBEq, Int.reduceBNe, Cat_eta, Old_eta, hc, ho, hv, hf, hfe]
      exact ⟨_, wk_weak (by simp [wk, wkL, wk1, wk0, Old.av, isv]), h _⟩
  · have hr : foundM c o f v = (⟨[], ByteArray.empty, 0⟩, ckOld c o) := by
      unfold foundM; rw [if_pos hv]
    rw [hr] at h
    simp -implicitDefEqProofs (maxSteps := 2000000) (disch := omega) only [go_sem, reduceCtorEq, Nat.reduceAdd, Nat.reduceSub, Nat.reduceMul, Nat.reduceLT, Nat.reduceLeDiff, Nat.reduceEqDiff, Nat.reduceBEq, Int.reduceToNat, Int.reduceLT, Int.reduceLE, Int.reduceEq, Int.reduceNeg, Int.reduceAdd, Int.reduceSub, Int.reduceMul, ↓reduceIte, Int.reduceBEq, Int.reduceBNe, Cat_eta, Old_eta, hc, ho, hv]
    exact ⟨_, wk_weak (by simp [wk, wkL, wk1, wk0, Old.av, isv]), h _⟩
/-- How many truths a feature leaves that looks in a way. -/
def leftN (L : List Made) (f : Nat) (v : Int) : Nat := (L.filter fun m => decide (tg m.look (f : Int) = v)).length
theorem leftN_le {L : List Made} {f : Nat} {v : Int} : leftN L f v ≤ L.length := List.length_filter_le _ _
set_option maxHeartbeats 40000000 in
theorem left_p (c : Cat) (L : List Made) (f : Nat) (v : Int) (hC : OkC c) (hL : ∀ m ∈ L, m ∈ allMade c) (hl : L.length ≤ 16) (hf : (f : Int) < c.features) : PureV Tryd.prog 23 [c.av, .list .no 1 ((L.map Made.pair).map isv), .int .i64 f, .int .i64 v] (.int .i64 (leftN L f v)) := by
  refine PureV.of_ev (E := Tryd.E 87 Tryd.ord23 fs21) (Tryd.envOK 87 Tryd.ord23 fs21 fs21_ok) (.int) Tryd.kp23 Tryd.func23 rfl (by kernel_rfl) (by simp [Tryd.E]) (Callable.of Tryd.func23 (by kernel_rfl) (by kernel_rfl)) (by kernel_rfl) ?_
  intro σ
  simp only [Cat.av]
  have hcm := hC.models
  have hfe := hC.features
  have hlm : (L.map Made.pair).length = L.length := List.length_map _
  have hpl : ((L.map Made.pair).map isv).length = L.length := by simp
  simp -implicitDefEqProofs (maxSteps := 2000000) (disch := omega) only [go_sem, reduceCtorEq, Nat.reduceAdd, Nat.reduceSub, Nat.reduceMul, Nat.reduceLT, Nat.reduceLeDiff, Nat.reduceEqDiff, Nat.reduceBEq, Int.reduceToNat, Int.reduceLT, Int.reduceLE, Int.reduceEq, Int.reduceNeg, Int.reduceAdd, Int.reduceSub, Int.reduceMul, ↓reduceIte, Int.reduceBEq, Int.reduceBNe]
  refine ARun.forG (Tryd.envOK 87 Tryd.ord23 fs21 fs21_ok) L.length (fun _ => True) (fun i => [(9, .int .i64 (leftN (L.take i) f v)), (10, .int .i64 i)]) (fun i j => σ ++ (.cells [.int .i64 c.features, .list .no 3 (c.models.map Model.av)] :: j)) [] (by kernel_rfl) (by kernel_rfl) rfl (by simp [upd, ins, subF, lookA, leftN]) trivial ?_ ?_
  · intro K Q' hK i j hi _ ih
    have hle := @leftN_le (L.take i) f v
    rw [List.length_take] at hle
    have hs : leftN (L.take (i + 1)) f v = leftN (L.take i) f v + if tg L[i].look (f : Int) = v then 1 else 0 := by
      unfold leftN
      rw [List.take_succ_eq_append_getElem hi, List.filter_append, List.length_append]
      by_cases h : tg L[i].look (f : Int) = v <;> simp [h]
    rw [hs] at ih
    clear hs
    generalize leftN (L.take i) f v = n at hle ih ⊢
    obtain ⟨a, k, ha, hk, hmk⟩ := all_mem (hL _ (List.getElem_mem hi))
    have hidx : idx ((L.map Made.pair).map isv) (i : Int) = some (isv L[i].pair) := by
      have h2 : i < (L.map Made.pair).length := by rw [hlm]; exact hi
      rw [idx_nat h2]; simp
    have hgd : c.models.getD a default = c.models[a] := by simp [List.getD, List.getElem?_eq_getElem ha]
    have hid : idx (c.models.map Model.av) (a : Int) = some (c.models[a]).av := idx_nat ha
    have hmav : (c.models[a]).av = .agg [.int .i64 (c.models[a]).first, .list .no 1 ((c.models[a]).looks.map isv), .list .no 2 ((c.models[a]).nums.map Rng.av)] := rfl
    have hM := hC.model _ (List.getElem_mem ha)
    rw [hgd] at hk hmk
    generalize c.models[a] = M at hM hid hmav hk hmk
    have hlk := hM.looks
    have hfi := hM.first
    have hkd : idx (M.looks.map isv) (k : Int) = some (isv M.looks[k]) := idx_nat hk
    have hll := hM.look _ (List.getElem_mem hk)
    have hg1 : M.looks.getD k [] = M.looks[k] := by simp [List.getD, List.getElem?_eq_getElem hk]
    have hpr : isv L[i].pair = .list .no 1 [.int .i64 a, .int .i64 (M.first + k)] := by rw [hmk]; rfl
    have hlo : tg L[i].look (f : Int) = tg M.looks[k] (f : Int) := by rw [hmk, made_look, hg1, tg_pad (by omega)]
    rw [hpr] at hidx
    rw [hlo] at ih
    have hlf : idx (M.looks[k].map (AV.int .i64)) (f : Int) = some (.int .i64 (tg M.looks[k] (f : Int))) := by rw [idx_nat (by have := hll.1; omega), tgE (by have := hll.1; omega)]
    have hkk : M.first + (k : Int) - M.first = k := by omega
    have hi1 : ∀ u v : AV, idx [u, v] 1 = some v := fun _ _ => rfl
    have hisl : isv M.looks[k] = .list .no 1 (M.looks[k].map (.int .i64)) := rfl
    rw [hisl] at hkd
    clear hmk hlo hg1 hgd hL hll hpr hisl
    generalize tg M.looks[k] (f : Int) = y at ih hlf
    by_cases h1 : y = v
    · simp -implicitDefEqProofs (maxSteps := 2000000) (disch := omega) only [go_sem, reduceCtorEq, Nat.reduceAdd, Nat.reduceSub, Nat.reduceMul, Nat.reduceLT, Nat.reduceLeDiff, Nat.reduceEqDiff, Nat.reduceBEq, Int.reduceToNat, Int.reduceLT, Int.reduceLE, Int.reduceEq, Int.reduceNeg, Int.reduceAdd, Int.reduceSub, Int.reduceMul, ↓reduceIte, Int.reduceBEq, Int.reduceBNe, hidx, idx_zero, hid, hmav, hi1, hkk, hkd, hlf]
      exact (ih trivial (j ++ [_])).castS (by simp; rfl) (by simp [upd, ins, subF, lookA, h1])
    · simp -implicitDefEqProofs (maxSteps := 2000000) (disch := omega) only [go_sem, reduceCtorEq, Nat.reduceAdd, Nat.reduceSub, Nat.reduceMul, Nat.reduceLT, Nat.reduceLeDiff, Nat.reduceEqDiff, Nat.reduceBEq, Int.reduceToNat, Int.reduceLT, Int.reduceLE, Int.reduceEq, Int.reduceNeg, Int.reduceAdd, Int.reduceSub, Int.reduceMul, ↓reduceIte, Int.reduceBEq, Int.reduceBNe, hidx, idx_zero, hid, hmav, hi1, hkk, hkd, hlf]
      exact (ih trivial (j ++ [_])).castS (by simp; rfl) (by simp [upd, ins, subF, lookA, h1])
  · intro j _
    rw [List.take_length]
    simp -implicitDefEqProofs (maxSteps := 2000000) (disch := omega) only [go_sem, reduceCtorEq, Nat.reduceAdd, Nat.reduceSub, Nat.reduceMul, Nat.reduceLT, Nat.reduceLeDiff, Nat.reduceEqDiff, Nat.reduceBEq, Int.reduceToNat, Int.reduceLT, Int.reduceLE, Int.reduceEq, Int.reduceNeg, Int.reduceAdd, Int.reduceSub, Int.reduceMul, ↓reduceIte, Int.reduceBEq, Int.reduceBNe]
end Go.Proofs
