/- Texts of a proof: lemmas. -/
import Derived.Test.YthejgnlikaiddaaDoorPI
set_option linter.unusedSimpArgs false
set_option linter.unusedVariables false
set_option maxRecDepth 100000
namespace Go.Proofs
open Go Go.Mu

def pLeast_s := spw2 tyCat.w tyOld.w fun c o => if okCat c ∧ okOld o then some (.tup [.int .i64 (leastM c o).1, .int .i64 (leastM c o).2]) else none
theorem pLeast_ok : ∀ xs v, pLeast_s xs = some v → PureV Tryd.prog 15 xs v :=
  spw2_ok fun c o v h => by have h := someIf h; rw [← h.2]; exact pLeast_p c o h.1.1 h.1.2
def fs12 (f : FuncId) (xs : List AV) : Option AV := if f = 15 then pLeast_s xs else fs11 f xs
theorem fs12_ok : ∀ f xs v, fs12 f xs = some v → PureV Tryd.prog f xs v := by
  intro f xs v h
  unfold fs12 at h
  split at h
  · rename_i e; subst e; exact pLeast_ok _ _ h
  exact fs11_ok _ _ _ h
attribute [go_sem] fs12 pLeast_s
def sortL (l : List Int) : List Int := l.mergeSort fun x y => decide (x ≤ y)
theorem sortL_len (l : List Int) : (sortL l).length = l.length := List.length_mergeSort _
def compactZ (l : List Int) : List Int := Lib.compactUpTo l.toArray l.length
/-- All numbers that some things have, ascending. -/
def valuesZ {α : Type} (num : α → Int) (l : List α) : List Int := compactZ (sortL (l.map num))
theorem sort_c (zs : List Int) {n : Nat} (e : zs.length = n) (hz : zs ≠ []) (hn : n ≤ 4294967296) {σ : List AObj} {r : Nat} (hg : hget σ r = some (.vec 1 (zs.map (.int .i64)))) {Q : AV → List AObj → Prop}
    (h : Q (.tup []) (hset σ r (.vec 1 ((sortL zs).map (.int .i64))))) : ACalls Tryd.prog 84 [.vec r n] σ Q := by
  subst e
  exact sort_a Tryd.lays189 (Callable.of Tryd.func84 (by kernel_rfl) (by kernel_rfl)) zs hz hn hg h
theorem compact_c (zs : List Int) {n : Nat} (e : zs.length = n) (hz : zs ≠ []) (hn : n ≤ 4294967296) {σ : List AObj} {r : Nat} (hg : hget σ r = some (.vec 1 (zs.map (.int .i64)))) {Q : AV → List AObj → Prop}
    (h : Q (.list .no 1 ((compactZ zs).map (.int .i64))) (hset σ r .dead)) : ACalls Tryd.prog 85 [.vec r n] σ Q := by
  subst e
  exact compact_a Tryd.lays20 (Callable.of Tryd.func85 (by kernel_rfl) (by kernel_rfl)) zs hz hn hg h
set_option maxHeartbeats 4000000 in
theorem values_c {g : FuncId} {p q : List AV} {σ : List AObj} (num : Made → Int) (l : List Made) (hl : l ≠ []) (hl2 : l.length ≤ 4294967296) (hn : ∀ x ∈ l, ClV Tryd.prog g p q σ [x.av] (.int .i64 (num x))) (Q : AV → List AObj → Prop) (h : Q (isv (valuesZ num l)) σ) :
    ACalls Tryd.prog 67 [.list .no 8 (l.map Made.av), .fn (.func g) p q] σ Q := by
  refine ACalls.clean_ev (E := Tryd.E 25 (fun _ => ([], [])) fs0) (Tryd.envOK 25 (fun _ => ([], [])) fs0 fs0_ok) (isv_plain _ _) (h) Tryd.kp67 Tryd.func67 rfl (by kernel_rfl) (by simp [Tryd.E]) (Callable.of Tryd.func67 (by kernel_rfl) (by kernel_rfl)) (by kernel_rfl) ?_
  simp -implicitDefEqProofs (maxSteps := 2000000) (disch := omega) only [go_sem, reduceCtorEq, Nat.reduceAdd, Nat.reduceSub, Nat.reduceMul, Nat.reduceLT, Nat.reduceLeDiff, Nat.reduceEqDiff, Nat.reduceBEq, Int.reduceToNat, Int.reduceLT, Int.reduceLE, Int.reduceEq, Int.reduceNeg, Int.reduceAdd, Int.reduceSub, Int.reduceMul, ↓reduceIte, Int.reduceBEq, Int.reduceBNe]
  refine ARun.ghostV 5 1 (sz0 := 0) rfl (by simp [lookA]) ?_
  simp only [ins, ↓reduceIte, List.append_assoc, List.cons_append, List.nil_append, List.length_append, List.length_cons, List.length_nil, Nat.zero_add, Nat.reduceEqDiff]
  refine ARun.forS (Tryd.envOK 25 (fun _ => ([], [])) fs0 fs0_ok) l.length (fun _ => True) (fun i => [(5, .vec σ.length i), (10, .int .i64 i)]) (fun i j => σ ++ (.vec 1 (((l.take i).map num).map (.int .i64)) :: j)) [] (by kernel_rfl) (by simp) (by simp [upd, ins, subF, lookA]) trivial ?_ ?_
  · intro i j hi _ ih
    have hmi : l[i] ∈ l := List.getElem_mem hi
    have hma : l[i].av = .agg [.int .i64 l[i].model, .int .i64 l[i].year, .int .i64 l[i].a, .int .i64 l[i].b, .int .i64 l[i].c, .int .i64 l[i].d, .int .i64 l[i].nums.lo, .int .i64 l[i].nums.hi] := rfl
    have htl : (l.take i).length = i := by rw [List.length_take]; omega
    rw [List.take_succ_eq_append_getElem hi, List.map_append, List.map_append] at ih
    simp -implicitDefEqProofs (maxSteps := 2000000) (disch := omega) only [go_sem, reduceCtorEq, Nat.reduceAdd, Nat.reduceSub, Nat.reduceMul, Nat.reduceLT, Nat.reduceLeDiff, Nat.reduceEqDiff, Nat.reduceBEq, Int.reduceToNat, Int.reduceLT, Int.reduceLE, Int.reduceEq, Int.reduceNeg, Int.reduceAdd, Int.reduceSub, Int.reduceMul, ↓reduceIte, Int.reduceBEq, Int.reduceBNe, hma]
    rw [← hma]
    refine (hn _ hmi).app1 ?_
    simp -implicitDefEqProofs (maxSteps := 2000000) (disch := omega) only [go_sem, reduceCtorEq, Nat.reduceAdd, Nat.reduceSub, Nat.reduceMul, Nat.reduceLT, Nat.reduceLeDiff, Nat.reduceEqDiff, Nat.reduceBEq, Int.reduceToNat, Int.reduceLT, Int.reduceLE, Int.reduceEq, Int.reduceNeg, Int.reduceAdd, Int.reduceSub, Int.reduceMul, ↓reduceIte, Int.reduceBEq, Int.reduceBNe, htl]
    exact (ih trivial (j ++ [.cells l[i].cells])).castS (by simp [Made.cells]) (by simp [upd, ins, subF, lookA, hma])
  · intro j _
    rw [List.take_length]
    have hlm : (l.map num).length = l.length := List.length_map _
    simp -implicitDefEqProofs (maxSteps := 2000000) (disch := omega) only [go_sem, reduceCtorEq, Nat.reduceAdd, Nat.reduceSub, Nat.reduceMul, Nat.reduceLT, Nat.reduceLeDiff, Nat.reduceEqDiff, Nat.reduceBEq, Int.reduceToNat, Int.reduceLT, Int.reduceLE, Int.reduceEq, Int.reduceNeg, Int.reduceAdd, Int.reduceSub, Int.reduceMul, ↓reduceIte, Int.reduceBEq, Int.reduceBNe]
    refine sort_c (l.map num) hlm (by simpa using hl) (by omega) (by rw [hget_at0]; rfl) ?_
    simp -implicitDefEqProofs (maxSteps := 2000000) (disch := omega) only [go_sem, reduceCtorEq, Nat.reduceAdd, Nat.reduceSub, Nat.reduceMul, Nat.reduceLT, Nat.reduceLeDiff, Nat.reduceEqDiff, Nat.reduceBEq, Int.reduceToNat, Int.reduceLT, Int.reduceLE, Int.reduceEq, Int.reduceNeg, Int.reduceAdd, Int.reduceSub, Int.reduceMul, ↓reduceIte, Int.reduceBEq, Int.reduceBNe]
    refine compact_c (sortL (l.map num)) (by rw [sortL_len]; exact hlm) (fun e => hl ?_) (by omega) (by rw [hget_at0]; rfl) ?_
    · have := congrArg List.length e; rw [sortL_len] at this; simpa using this
    simp -implicitDefEqProofs (maxSteps := 2000000) (disch := omega) only [go_sem, reduceCtorEq, Nat.reduceAdd, Nat.reduceSub, Nat.reduceMul, Nat.reduceLT, Nat.reduceLeDiff, Nat.reduceEqDiff, Nat.reduceBEq, Int.reduceToNat, Int.reduceLT, Int.reduceLE, Int.reduceEq, Int.reduceNeg, Int.reduceAdd, Int.reduceSub, Int.reduceMul, ↓reduceIte, Int.reduceBEq, Int.reduceBNe]
    exact ⟨rfl, .inl rfl, .inl rfl⟩
theorem get4I {a b c d f : Int} (h0 : 0 ≤ f) (h : f < 4) : [AV.int .i64 a, .int .i64 b, .int .i64 c, .int .i64 d][f.toNat]? = some (.int .i64 (tg [a, b, c, d] f)) := by
  obtain ⟨i, rfl⟩ : ∃ i : Nat, f = i := ⟨f.toNat, by omega⟩
  exact get4 (by omega)
theorem Known1_v {σ : List AObj} {r : Nat} {f : Int} (hg : hget σ r = some (.cells [.int .i64 f])) (h0 : 0 ≤ f) (h1 : f < 4) (x : Made) :
    ClV Tryd.prog 70 [] [.ptr r 0] σ [x.av] (.int .i64 (tg x.look f)) := by
  intro σ' hl' hs' Q hq
  have hg' : ∀ l, hget (σ' ++ l) r = some _ := fun l => by rw [hget_app (by have := hget_lt hg; omega), hs' _ (hget_lt hg)]; exact hg
  have hlk : x.look = [x.a, x.b, x.c, x.d] := rfl
  rw [hlk] at hq
  have h4 := @get4I x.a x.b x.c x.d f h0 h1
  have h5 : [AV.int .i64 x.model, .int .i64 x.year, .int .i64 x.a, .int .i64 x.b, .int .i64 x.c, .int .i64 x.d, .int .i64 x.nums.lo, .int .i64 x.nums.hi][2 + f.toNat]? = some (.int .i64 (tg [x.a, x.b, x.c, x.d] f)) := by
    rw [← h4]
    have : f.toNat < 4 := by omega
    have : f.toNat = 0 ∨ f.toNat = 1 ∨ f.toNat = 2 ∨ f.toNat = 3 := by omega
    rcases this with e | e | e | e <;> rw [e] <;> rfl
  simp only [List.nil_append, List.cons_append, Made.av]
  refine ACalls.clean_ev (E := Tryd.E 8 (fun _ => ([], [])) fs0) (Tryd.envOK 8 (fun _ => ([], [])) fs0 fs0_ok) (.int _ _) (hq) Tryd.kp70 Tryd.func70 rfl (by kernel_rfl) (by simp [Tryd.E]) (Callable.of Tryd.func70 (by kernel_rfl) (by kernel_rfl)) (by kernel_rfl) ?_
  simp -implicitDefEqProofs (maxSteps := 2000000) (disch := omega) only [go_sem, reduceCtorEq, Nat.reduceAdd, Nat.reduceSub, Nat.reduceMul, Nat.reduceLT, Nat.reduceLeDiff, Nat.reduceEqDiff, Nat.reduceBEq, Int.reduceToNat, Int.reduceLT, Int.reduceLE, Int.reduceEq, Int.reduceNeg, Int.reduceAdd, Int.reduceSub, Int.reduceMul, ↓reduceIte, Int.reduceBEq, Int.reduceBNe, hg', h5]
theorem Models1_v {σ : List AObj} (x : Made) : ClV Tryd.prog 71 [] [] σ [x.av] (.int .i64 x.model) := by
  intro σ' hl' hs' Q hq
  simp only [List.nil_append, List.cons_append, Made.av]
  refine ACalls.clean_ev (E := Tryd.E 5 (fun _ => ([], [])) fs0) (Tryd.envOK 5 (fun _ => ([], [])) fs0 fs0_ok) (.int _ _) (hq) Tryd.kp71 Tryd.func71 rfl (by kernel_rfl) (by simp [Tryd.E]) (Callable.of Tryd.func71 (by kernel_rfl) (by kernel_rfl)) (by kernel_rfl) ?_
  simp -implicitDefEqProofs (maxSteps := 2000000) (disch := omega) only [go_sem, reduceCtorEq, Nat.reduceAdd, Nat.reduceSub, Nat.reduceMul, Nat.reduceLT, Nat.reduceLeDiff, Nat.reduceEqDiff, Nat.reduceBEq, Int.reduceToNat, Int.reduceLT, Int.reduceLE, Int.reduceEq, Int.reduceNeg, Int.reduceAdd, Int.reduceSub, Int.reduceMul, ↓reduceIte, Int.reduceBEq, Int.reduceBNe]
theorem Years1_v {σ : List AObj} (x : Made) : ClV Tryd.prog 68 [] [] σ [x.av] (.int .i64 x.year) := by
  intro σ' hl' hs' Q hq
  simp only [List.nil_append, List.cons_append, Made.av]
  refine ACalls.clean_ev (E := Tryd.E 5 (fun _ => ([], [])) fs0) (Tryd.envOK 5 (fun _ => ([], [])) fs0 fs0_ok) (.int _ _) (hq) Tryd.kp68 Tryd.func68 rfl (by kernel_rfl) (by simp [Tryd.E]) (Callable.of Tryd.func68 (by kernel_rfl) (by kernel_rfl)) (by kernel_rfl) ?_
  simp -implicitDefEqProofs (maxSteps := 2000000) (disch := omega) only [go_sem, reduceCtorEq, Nat.reduceAdd, Nat.reduceSub, Nat.reduceMul, Nat.reduceLT, Nat.reduceLeDiff, Nat.reduceEqDiff, Nat.reduceBEq, Int.reduceToNat, Int.reduceLT, Int.reduceLE, Int.reduceEq, Int.reduceNeg, Int.reduceAdd, Int.reduceSub, Int.reduceMul, ↓reduceIte, Int.reduceBEq, Int.reduceBNe]
theorem isvI_plain {l : List Int} {e : Int} : Plain (.tup [isv l, .int .i64 e]) := .tup (by simp; exact ⟨isv_plain _, .int⟩)
def knownFM (c : Cat) (o : Old) (f : Int) : List Int × Int :=
  if (knownM c o [featE c f]).2 = 0 then (valuesZ (fun m : Made => tg m.look f) (truthsM c o), 0) else ([], (knownM c o [featE c f]).2)
def modelsM (c : Cat) (o : Old) : List Int × Int :=
  if (knownM c o []).2 = 0 then (valuesZ Made.model (truthsM c o), 0) else ([], (knownM c o []).2)
set_option maxHeartbeats 4000000 in
theorem pKnown_p (c : Cat) (o : Old) (f : Int) (hc : okCat c) (ho : okOld o) (hf : -4294967296 ≤ c.features ∧ c.features ≤ 4294967296) : PureV Tryd.prog 30 [c.av, o.av, .int .i64 f] (.tup [isv (knownFM c o f).1, .int .i64 (knownFM c o f).2]) := by
  refine PureV.of_ev (E := Tryd.E 26 Tryd.ord30 fs12) (Tryd.envOK 26 Tryd.ord30 fs12 fs12_ok) (isvI_plain) Tryd.kp30 Tryd.func30 rfl (by kernel_rfl) (by simp [Tryd.E]) (Callable.of Tryd.func30 (by kernel_rfl) (by kernel_rfl)) (by kernel_rfl) ?_
  intro σ
  simp only [Cat.av, Old.av]
  by_cases hk : (knownM c o [featE c f]).2 = 0
  · have hk0 := hk
    obtain ⟨hv, hne, hke⟩ := knownM_ok hk
    have hlen := truthsM_len (o := o) (okO_of_ck hv).1
    have hfe : 0 ≤ f ∧ f < 4 := by
      have hC := (okO_of_ck hv).1.features
      have : featE c f = 0 := by
        apply Classical.byContradiction
        intro hn
        unfold knownM at hk0
        have e1 : firstE id [featE c f] = featE c f := by simp [firstE, hn]
        rw [if_neg (by simp [hv]), e1, if_pos hn] at hk0
        exact hn hk0
      unfold featE at this
      split at this
      · omega
      · cases this
    have hr : knownFM c o f = (valuesZ (fun m : Made => tg m.look f) (truthsM c o), 0) := by unfold knownFM; rw [if_pos hk]
    rw [hr]
    simp -implicitDefEqProofs (maxSteps := 2000000) (disch := omega) only [go_sem, reduceCtorEq, Nat.reduceAdd, Nat.reduceSub, Nat.reduceMul, Nat.reduceLT, Nat.reduceLeDiff, Nat.reduceEqDiff, Nat.reduceBEq, Int.reduceToNat, Int.reduceLT, Int.reduceLE, Int.reduceEq, Int.reduceNeg, Int.reduceAdd, Int.reduceSub, Int.reduceMul, ↓reduceIte, Int.reduceBEq, Int.reduceBNe, Cat_eta, Old_eta, hc, ho, hke]
    refine values_c (fun m : Made => tg m.look f) _ hne (by omega) (fun x _ => Known1_v hget_at hfe.1 hfe.2 x) _ ?_
    simp -implicitDefEqProofs (maxSteps := 2000000) (disch := omega) only [go_sem, reduceCtorEq, Nat.reduceAdd, Nat.reduceSub, Nat.reduceMul, Nat.reduceLT, Nat.reduceLeDiff, Nat.reduceEqDiff, Nat.reduceBEq, Int.reduceToNat, Int.reduceLT, Int.reduceLE, Int.reduceEq, Int.reduceNeg, Int.reduceAdd, Int.reduceSub, Int.reduceMul, ↓reduceIte, Int.reduceBEq, Int.reduceBNe, isv]
  · have hr : knownFM c o f = ([], (knownM c o [featE c f]).2) := by unfold knownFM; rw [if_neg hk]
    rw [hr]
    simp -implicitDefEqProofs (maxSteps := 2000000) (disch := omega) only [go_sem, reduceCtorEq, Nat.reduceAdd, Nat.reduceSub, Nat.reduceMul, Nat.reduceLT, Nat.reduceLeDiff, Nat.reduceEqDiff, Nat.reduceBEq, Int.reduceToNat, Int.reduceLT, Int.reduceLE, Int.reduceEq, Int.reduceNeg, Int.reduceAdd, Int.reduceSub, Int.reduceMul, ↓reduceIte, Int.reduceBEq, Int.reduceBNe, Cat_eta, Old_eta, hc, ho, hk, isv]
set_option maxHeartbeats 4000000 in
theorem pModels_p (c : Cat) (o : Old) (hc : okCat c) (ho : okOld o) : PureV Tryd.prog 35 [c.av, o.av] (.tup [isv (modelsM c o).1, .int .i64 (modelsM c o).2]) := by
  refine PureV.of_ev (E := Tryd.E 19 (fun _ => ([], [])) fs12) (Tryd.envOK 19 (fun _ => ([], [])) fs12 fs12_ok) (isvI_plain) Tryd.kp35 Tryd.func35 rfl (by kernel_rfl) (by simp [Tryd.E]) (Callable.of Tryd.func35 (by kernel_rfl) (by kernel_rfl)) (by kernel_rfl) ?_
  intro σ
  simp only [Cat.av, Old.av]
  by_cases hk : (knownM c o []).2 = 0
  · obtain ⟨hv, hne, hke⟩ := knownM_ok hk
    have hlen := truthsM_len (o := o) (okO_of_ck hv).1
    have hr : modelsM c o = (valuesZ Made.model (truthsM c o), 0) := by unfold modelsM; rw [if_pos hk]
    rw [hr]
    simp -implicitDefEqProofs (maxSteps := 2000000) (disch := omega) only [go_sem, reduceCtorEq, Nat.reduceAdd, Nat.reduceSub, Nat.reduceMul, Nat.reduceLT, Nat.reduceLeDiff, Nat.reduceEqDiff, Nat.reduceBEq, Int.reduceToNat, Int.reduceLT, Int.reduceLE, Int.reduceEq, Int.reduceNeg, Int.reduceAdd, Int.reduceSub, Int.reduceMul, ↓reduceIte, Int.reduceBEq, Int.reduceBNe, Cat_eta, Old_eta, hc, ho, hke]
    refine values_c Made.model _ hne (by omega) (fun x _ => Models1_v x) _ ?_
    simp -implicitDefEqProofs (maxSteps := 2000000) (disch := omega) only [go_sem, reduceCtorEq, Nat.reduceAdd, Nat.reduceSub, Nat.reduceMul, Nat.reduceLT, Nat.reduceLeDiff, Nat.reduceEqDiff, Nat.reduceBEq, Int.reduceToNat, Int.reduceLT, Int.reduceLE, Int.reduceEq, Int.reduceNeg, Int.reduceAdd, Int.reduceSub, Int.reduceMul, ↓reduceIte, Int.reduceBEq, Int.reduceBNe, isv]
  · have hr : modelsM c o = ([], (knownM c o []).2) := by unfold modelsM; rw [if_neg hk]
    rw [hr]
    simp -implicitDefEqProofs (maxSteps := 2000000) (disch := omega) only [go_sem, reduceCtorEq, Nat.reduceAdd, Nat.reduceSub, Nat.reduceMul, Nat.reduceLT, Nat.reduceLeDiff, Nat.reduceEqDiff, Nat.reduceBEq, Int.reduceToNat, Int.reduceLT, Int.reduceLE, Int.reduceEq, Int.reduceNeg, Int.reduceAdd, Int.reduceSub, Int.reduceMul, ↓reduceIte, Int.reduceBEq, Int.reduceBNe, Cat_eta, Old_eta, hc, ho, hk, isv]
end Go.Proofs
