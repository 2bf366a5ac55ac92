/- Texts of a proof: lemmas. -/
import Derived.Test.YthejgnlikaiddaaDoorPG
set_option linter.unusedSimpArgs false
set_option linter.unusedVariables false
set_option maxRecDepth 100000
namespace Go.Proofs
open Go Go.Mu

def featE (c : Cat) (f : Int) : Int := if 0 ≤ f ∧ f ≤ c.features - 1 then 0 else 3
theorem isFeature_p (c : Cat) (f : Int) (hc : -4294967296 ≤ c.features) (hc2 : c.features ≤ 4294967296) : PureV Tryd.prog 62 [c.av, .int .i64 f] (.int .i64 (featE c f)) := by
  refine PureV.of_ev (E := Tryd.E 11 (fun _ => ([], [])) fs4) (Tryd.envOK 11 (fun _ => ([], [])) fs4 fs4_ok) (.int) Tryd.kp62 Tryd.func62 rfl (by kernel_rfl) (by simp [Tryd.E]) (Callable.of Tryd.func62 (by kernel_rfl) (by kernel_rfl)) (by kernel_rfl) ?_
  intro σ
  simp only [Cat.av]
  simp -implicitDefEqProofs (maxSteps := 2000000) (disch := omega) only [go_sem, reduceCtorEq, Nat.reduceAdd, Nat.reduceSub, Nat.reduceMul, Nat.reduceLT, Nat.reduceLeDiff, Nat.reduceEqDiff, Nat.reduceBEq, Int.reduceToNat, Int.reduceLT, Int.reduceLE, Int.reduceEq, Int.reduceNeg, Int.reduceAdd, Int.reduceSub, Int.reduceMul, ↓reduceIte, Int.reduceBEq, Int.reduceBNe]
  refine ⟨fun h1 h2 => ?_, fun h => ?_⟩
  · simp only [featE]; grind
  · simp only [featE]; grind
def isFeature_s := spw2 tyCat.w tyI.w fun c f => if -4294967296 ≤ c.features ∧ c.features ≤ 4294967296 then some (.int .i64 (featE c f)) else none
theorem isFeature_ok : ∀ xs v, isFeature_s xs = some v → PureV Tryd.prog 62 xs v :=
  spw2_ok fun c f v h => by have h := someIf h; rw [← h.2]; exact isFeature_p c f h.1.1 h.1.2
def fs9 (f : FuncId) (xs : List AV) : Option AV := if f = 48 then ptruths_s xs else fs8 f xs
theorem fs9_ok : ∀ f xs v, fs9 f xs = some v → PureV Tryd.prog f xs v := by
  intro f xs v h
  unfold fs9 at h
  split at h
  · rename_i e; subst e; exact ptruths_ok _ _ h
  exact fs8_ok _ _ _ h
attribute [go_sem] fs9 ptruths_s
theorem truthsM_len {c : Cat} {o : Old} (hc : OkC c) : (truthsM c o).length ≤ 16 := Nat.le_trans (List.length_filter_le _ _) (allMade_len hc)
theorem known_plain {l : List Made} {e : Int} : Plain (.tup [.list .no 8 (l.map Made.av), .int .i64 e]) := .tup (by simp; exact ⟨mades_plain _, .int⟩)
set_option maxHeartbeats 4000000 in
theorem pknown_p (c : Cat) (o : Old) (ws : List Int) (hc : okCat c) (ho : okOld o) (hw : ws.length ≤ 4294967296) : PureV Tryd.prog 52 [c.av, o.av, isv ws] (.tup [.list .no 8 ((knownM c o ws).1.map Made.av), .int .i64 (knownM c o ws).2]) := by
  refine PureV.of_ev (E := Tryd.E 35 (fun _ => ([], [])) fs9) (Tryd.envOK 35 (fun _ => ([], [])) fs9 fs9_ok) (known_plain) Tryd.kp52 Tryd.func52 rfl (by kernel_rfl) (by simp [Tryd.E]) (Callable.of Tryd.func52 (by kernel_rfl) (by kernel_rfl)) (by kernel_rfl) ?_
  intro σ
  simp only [Cat.av, Old.av, isv]
  by_cases hv : ckOld c o = 0
  · obtain ⟨hC, hO⟩ := okO_of_ck hv
    have hlen := truthsM_len (o := o) hC
    simp -implicitDefEqProofs (maxSteps := 2000000) (disch := omega) only [go_sem, reduceCtorEq, Nat.reduceAdd, Nat.reduceSub, Nat.reduceMul, Nat.reduceLT, Nat.reduceLeDiff, Nat.reduceEqDiff, Nat.reduceBEq, Int.reduceToNat, Int.reduceLT, Int.reduceLE, Int.reduceEq, Int.reduceNeg, Int.reduceAdd, Int.reduceSub, Int.reduceMul, ↓reduceIte, Int.reduceBEq, Int.reduceBNe, Cat_eta, Old_eta, hc, ho, hv]
    refine ARun.forS (Tryd.envOK 35 (fun _ => ([], [])) fs9 fs9_ok) ws.length (fun i => firstE id (ws.drop i) = firstE id ws) (fun i => [(20, .int .i64 i)]) (fun _ j => σ ++ (.cells [.int .i64 c.features, .list .no 3 (c.models.map Model.av)] :: .cells [isv o.seen, .str o.plate, .int .i64 o.changed] :: j)) [] (by kernel_rfl) rfl (by simp [upd, ins, subF, lookA]) (by simp) ?_ ?_
    · intro i j hi hp ih
      rw [firstE_drop hi] at hp
      change (if ws[i] = 0 then _ else ws[i]) = _ at hp
      simp -implicitDefEqProofs (maxSteps := 2000000) (disch := omega) only [go_sem, reduceCtorEq, Nat.reduceAdd, Nat.reduceSub, Nat.reduceMul, Nat.reduceLT, Nat.reduceLeDiff, Nat.reduceEqDiff, Nat.reduceBEq, Int.reduceToNat, Int.reduceLT, Int.reduceLE, Int.reduceEq, Int.reduceNeg, Int.reduceAdd, Int.reduceSub, Int.reduceMul, ↓reduceIte, Int.reduceBEq, Int.reduceBNe]
      refine ⟨fun r1 => ?_, fun r1 => (ih (by rw [if_pos r1] at hp; exact hp) j).castS rfl (by simp [upd, ins, subF, lookA])⟩
      have hz : firstE id ws = ws[i] := by rw [← hp, if_neg r1]
      have : knownM c o ws = ([], ws[i]) := by unfold knownM; rw [if_neg (by simp [hv]), hz, if_pos r1]
      rw [this]; simp [wk0_list]
    · intro j hp
      rw [firstE_end] at hp
      have hk : knownM c o ws = if truthsM c o = [] then ([], 9) else (truthsM c o, 0) := by unfold knownM; rw [if_neg (by simp [hv]), if_neg (by simp [← hp])]
      rw [hk]
      by_cases hL : truthsM c o = []
      · simp -implicitDefEqProofs (maxSteps := 2000000) (disch := omega) only [go_sem, reduceCtorEq, Nat.reduceAdd, Nat.reduceSub, Nat.reduceMul, Nat.reduceLT, Nat.reduceLeDiff, Nat.reduceEqDiff, Nat.reduceBEq, Int.reduceToNat, Int.reduceLT, Int.reduceLE, Int.reduceEq, Int.reduceNeg, Int.reduceAdd, Int.reduceSub, Int.reduceMul, ↓reduceIte, Int.reduceBEq, Int.reduceBNe, Cat_eta, Old_eta, hC, hO, hL]
      · have hz : ¬ (truthsM c o).length = 0 := fun h => hL (List.length_eq_zero_iff.1 h)
        rw [if_neg hL]
        simp -implicitDefEqProofs (maxSteps := 2000000) (disch := omega) only [go_sem, reduceCtorEq, Nat.reduceAdd, Nat.reduceSub, Nat.reduceMul, Nat.reduceLT, Nat.reduceLeDiff, Nat.reduceEqDiff, Nat.reduceBEq, Int.reduceToNat, Int.reduceLT, Int.reduceLE, Int.reduceEq, Int.reduceNeg, Int.reduceAdd, Int.reduceSub, Int.reduceMul, ↓reduceIte, Int.reduceBEq, Int.reduceBNe, Cat_eta, Old_eta, hC, hO]
  · have : knownM c o ws = ([], ckOld c o) := by unfold knownM; rw [if_pos hv]
    rw [this]
    simp -implicitDefEqProofs (maxSteps := 2000000) (disch := omega) only [go_sem, reduceCtorEq, Nat.reduceAdd, Nat.reduceSub, Nat.reduceMul, Nat.reduceLT, Nat.reduceLeDiff, Nat.reduceEqDiff, Nat.reduceBEq, Int.reduceToNat, Int.reduceLT, Int.reduceLE, Int.reduceEq, Int.reduceNeg, Int.reduceAdd, Int.reduceSub, Int.reduceMul, ↓reduceIte, Int.reduceBEq, Int.reduceBNe, Cat_eta, Old_eta, hc, ho, hv]
def pknown_s := spw3 tyCat.w tyOld.w tyIs.w fun c o ws => if okCat c ∧ okOld o ∧ ws.length ≤ 4294967296 then some (.tup [.list .no 8 ((knownM c o ws).1.map Made.av), .int .i64 (knownM c o ws).2]) else none
theorem pknown_ok : ∀ xs v, pknown_s xs = some v → PureV Tryd.prog 52 xs v :=
  spw3_ok fun c o ws v h => by have h := someIf h; rw [← h.2]; exact pknown_p c o ws h.1.1 h.1.2.1 h.1.2.2
def fs10 (f : FuncId) (xs : List AV) : Option AV := if f = 52 then pknown_s xs else if f = 62 then isFeature_s xs else fs9 f xs
theorem fs10_ok : ∀ f xs v, fs10 f xs = some v → PureV Tryd.prog f xs v := by
  intro f xs v h
  unfold fs10 at h
  split at h
  · rename_i e; subst e; exact pknown_ok _ _ h
  split at h
  · rename_i e; subst e; exact isFeature_ok _ _ h
  exact fs9_ok _ _ _ h
attribute [go_sem] fs10 pknown_s isFeature_s
theorem knownM_ok {c : Cat} {o : Old} {ws : List Int} (h : (knownM c o ws).2 = 0) : ckOld c o = 0 ∧ truthsM c o ≠ [] ∧ knownM c o ws = (truthsM c o, 0) := by
  unfold knownM at h ⊢
  by_cases h1 : ckOld c o = 0
  · rw [if_neg (by simp [h1])] at h ⊢
    by_cases h2 : firstE id ws = 0
    · rw [if_neg (by simp [h2])] at h ⊢
      by_cases h3 : truthsM c o = []
      · rw [if_pos h3] at h; cases h
      · rw [if_neg h3] at h ⊢; exact ⟨h1, h3, rfl⟩
    · rw [if_pos h2] at h; exact absurd h h2
  · rw [if_pos h1] at h; exact absurd h h1
/-- The model and the year of a truth. -/
def Made.pair (m : Made) : List Int := [m.model, m.year]
def fitsM (c : Cat) (o : Old) : List (List Int) × Int := if (knownM c o []).2 = 0 then ((truthsM c o).map Made.pair, 0) else ([], (knownM c o []).2)
theorem lists_plain {l : List (List Int)} {e : Int} : Plain (.tup [.list .no 1 (l.map isv), .int .i64 e]) := .tup (by
  simp only [List.mem_cons, List.not_mem_nil, or_false, forall_eq_or_imp, forall_eq]
  exact ⟨.map fun x _ => .cells_list (Plain.ints (xs := x)), .int⟩)
set_option maxHeartbeats 4000000 in
theorem pFits_p (c : Cat) (o : Old) (hc : okCat c) (ho : okOld o) : PureV Tryd.prog 17 [c.av, o.av] (.tup [.list .no 1 ((fitsM c o).1.map isv), .int .i64 (fitsM c o).2]) := by
  refine PureV.of_ev (E := Tryd.E 36 (fun _ => ([], [])) fs10) (Tryd.envOK 36 (fun _ => ([], [])) fs10 fs10_ok) (lists_plain) Tryd.kp17 Tryd.func17 rfl (by kernel_rfl) (by simp [Tryd.E]) (Callable.of Tryd.func17 (by kernel_rfl) (by kernel_rfl)) (by kernel_rfl) ?_
  intro σ
  simp only [Cat.av, Old.av]
  by_cases hk : (knownM c o []).2 = 0
  · obtain ⟨hv, hne, hke⟩ := knownM_ok hk
    have hlen := truthsM_len (o := o) (okO_of_ck hv).1
    have hf : fitsM c o = ((truthsM c o).map Made.pair, 0) := by unfold fitsM; rw [if_pos hk]
    rw [hf]
    simp -implicitDefEqProofs (maxSteps := 2000000) (disch := omega) only [go_sem, reduceCtorEq, Nat.reduceAdd, Nat.reduceSub, Nat.reduceMul, Nat.reduceLT, Nat.reduceLeDiff, Nat.reduceEqDiff, Nat.reduceBEq, Int.reduceToNat, Int.reduceLT, Int.reduceLE, Int.reduceEq, Int.reduceNeg, Int.reduceAdd, Int.reduceSub, Int.reduceMul, ↓reduceIte, Int.reduceBEq, Int.reduceBNe, Cat_eta, Old_eta, hc, ho, hke]
    refine ARun.ghost 8 1 (sz0 := 0) rfl (by simp [lookA]) ?_
    simp only [ins, ↓reduceIte, List.append_assoc, List.cons_append, List.nil_append, List.length_append, List.length_cons, List.length_nil, Nat.zero_add, Nat.reduceEqDiff]
    generalize truthsM c o = L at hlen ⊢
    refine ARun.forS (Tryd.envOK 36 (fun _ => ([], [])) fs10 fs10_ok) L.length (fun _ => True) (fun i => [(8, .list (.own (σ.length + 2)) 1 (((L.take i).map Made.pair).map isv)), (22, .int .i64 i)]) (fun i j => σ ++ (.cells [.int .i64 c.features, .list .no 3 (c.models.map Model.av)] :: .cells [isv o.seen, .str o.plate, .int .i64 o.changed] :: .tail i 1 :: j)) [] (by kernel_rfl) (by simp) (by simp [upd, ins, subF, lookA]) trivial ?_ ?_
    · intro i j hi _ ih
      have htl : (L.take i).length = i := by rw [List.length_take]; omega
      rw [List.take_succ_eq_append_getElem hi, List.map_append, List.map_append] at ih
      have hma : L[i].av = .agg [.int .i64 L[i].model, .int .i64 L[i].year, .int .i64 L[i].a, .int .i64 L[i].b, .int .i64 L[i].c, .int .i64 L[i].d, .int .i64 L[i].nums.lo, .int .i64 L[i].nums.hi] := rfl
      simp -implicitDefEqProofs (maxSteps := 2000000) (disch := omega) only [go_sem, reduceCtorEq, Nat.reduceAdd, Nat.reduceSub, Nat.reduceMul, Nat.reduceLT, Nat.reduceLeDiff, Nat.reduceEqDiff, Nat.reduceBEq, Int.reduceToNat, Int.reduceLT, Int.reduceLE, Int.reduceEq, Int.reduceNeg, Int.reduceAdd, Int.reduceSub, Int.reduceMul, ↓reduceIte, Int.reduceBEq, Int.reduceBNe, hma, htl]
      exact (ih trivial (j ++ [.cells L[i].cells])).castS (by simp [Made.cells]) (by simp [upd, ins, subF, lookA, isv, Made.pair])
    · intro j _
      rw [List.take_length]
      simp -implicitDefEqProofs (maxSteps := 2000000) (disch := omega) only [go_sem, reduceCtorEq, Nat.reduceAdd, Nat.reduceSub, Nat.reduceMul, Nat.reduceLT, Nat.reduceLeDiff, Nat.reduceEqDiff, Nat.reduceBEq, Int.reduceToNat, Int.reduceLT, Int.reduceLE, Int.reduceEq, Int.reduceNeg, Int.reduceAdd, Int.reduceSub, Int.reduceMul, ↓reduceIte, Int.reduceBEq, Int.reduceBNe]
  · have hf : fitsM c o = ([], (knownM c o []).2) := by unfold fitsM; rw [if_neg hk]
    rw [hf]
    simp -implicitDefEqProofs (maxSteps := 2000000) (disch := omega) only [go_sem, reduceCtorEq, Nat.reduceAdd, Nat.reduceSub, Nat.reduceMul, Nat.reduceLT, Nat.reduceLeDiff, Nat.reduceEqDiff, Nat.reduceBEq, Int.reduceToNat, Int.reduceLT, Int.reduceLE, Int.reduceEq, Int.reduceNeg, Int.reduceAdd, Int.reduceSub, Int.reduceMul, ↓reduceIte, Int.reduceBEq, Int.reduceBNe, Cat_eta, Old_eta, hc, ho, hk]
def pFits_s := spw2 tyCat.w tyOld.w fun c o => if okCat c ∧ okOld o then some (.tup [.list .no 1 ((fitsM c o).1.map isv), .int .i64 (fitsM c o).2]) else none
theorem pFits_ok : ∀ xs v, pFits_s xs = some v → PureV Tryd.prog 17 xs v :=
  spw2_ok fun c o v h => by have h := someIf h; rw [← h.2]; exact pFits_p c o h.1.1 h.1.2
/-- Without a plate; with as many changes as there can be. -/
def Old.bare (o : Old) : Old := ⟨o.seen, ⟨#[]⟩, o.changed⟩
def Old.all4 (o : Old) : Old := ⟨o.seen, o.plate, 4⟩
theorem okO_bare {c : Cat} {o : Old} (h : OkO c o) : OkO c o.bare := ⟨h.seen, ⟨by simp [Old.bare, ByteArray.size], by simp [Old.bare]⟩, .inl rfl, h.changed⟩
theorem okO_all4 {c : Cat} {o : Old} (h : OkO c o) : OkO c o.all4 := ⟨h.seen, h.plate, h.psize, by simp [Old.all4]⟩
def forgedM (c : Cat) (o : Old) : Bool × Int :=
  if ckOld c o ≠ 0 then (false, ckOld c o) else if o.plate.size = 0 then (false, 11) else if truthsM c o.bare = [] then (false, 9) else (decide (truthsM c o = []), 0)
theorem bi_plain {b : Bool} {e : Int} : Plain (.tup [.bool b, .int .i64 e]) := .tup (by simp; exact ⟨.bool, .int⟩)
theorem str_nil (s : ByteArray) : (s.toList = ({ data := #[] } : ByteArray).toList) = (s.size = 0) := by
  rw [ByteArray.toList_eq, ByteArray.toList_eq]
  apply propext
  constructor
  · intro h
    show s.data.size = 0
    rw [← Array.length_toList, h]; rfl
  · intro h
    have : s.data.size = 0 := h
    rw [← Array.length_toList, List.length_eq_zero_iff] at this
    exact this
set_option maxHeartbeats 4000000 in
theorem forged_p (c : Cat) (o : Old) (hc : okCat c) (ho : okOld o) : PureV Tryd.prog 20 [c.av, o.av] (.tup [.bool (forgedM c o).1, .int .i64 (forgedM c o).2]) := by
  refine PureV.of_ev (E := Tryd.E 29 (fun _ => ([], [])) fs10) (Tryd.envOK 29 (fun _ => ([], [])) fs10 fs10_ok) (bi_plain) Tryd.kp20 Tryd.func20 rfl (by kernel_rfl) (by simp [Tryd.E]) (Callable.of Tryd.func20 (by kernel_rfl) (by kernel_rfl)) (by kernel_rfl) ?_
  intro σ
  simp only [Cat.av, Old.av]
  by_cases hv : ckOld c o = 0
  · obtain ⟨hC, hO⟩ := okO_of_ck hv
    have hB := okO_bare hO
    have hl1 := truthsM_len (o := o) hC
    have hl2 := truthsM_len (o := o.bare) hC
    have hbe : (⟨o.seen, ⟨#[]⟩, o.changed⟩ : Old) = o.bare := rfl
    simp -implicitDefEqProofs (maxSteps := 2000000) (disch := omega) only [go_sem, reduceCtorEq, Nat.reduceAdd, Nat.reduceSub, Nat.reduceMul, Nat.reduceLT, Nat.reduceLeDiff, Nat.reduceEqDiff, Nat.reduceBEq, Int.reduceToNat, Int.reduceLT, Int.reduceLE, Int.reduceEq, Int.reduceNeg, Int.reduceAdd, Int.reduceSub, Int.reduceMul, ↓reduceIte, Int.reduceBEq, Int.reduceBNe, Cat_eta, hbe, hB, Old_eta, hC, hO, hc, ho, hv, str_nil]
    have hlz : ∀ l : List Made, l.length = 0 ↔ l = [] := fun l => List.length_eq_zero_iff
    refine ⟨fun r1 => ?_, fun r1 => ⟨fun r2 => ?_, fun r2 => ⟨fun r3 => ?_, fun r3 => ?_⟩⟩⟩
    all_goals (simp only [forgedM]; grind)
  · have : forgedM c o = (false, ckOld c o) := by unfold forgedM; rw [if_pos hv]
    rw [this]
    simp -implicitDefEqProofs (maxSteps := 2000000) (disch := omega) only [go_sem, reduceCtorEq, Nat.reduceAdd, Nat.reduceSub, Nat.reduceMul, Nat.reduceLT, Nat.reduceLeDiff, Nat.reduceEqDiff, Nat.reduceBEq, Int.reduceToNat, Int.reduceLT, Int.reduceLE, Int.reduceEq, Int.reduceNeg, Int.reduceAdd, Int.reduceSub, Int.reduceMul, ↓reduceIte, Int.reduceBEq, Int.reduceBNe, Cat_eta, Old_eta, hc, ho, hv]
def forged_s := spw2 tyCat.w tyOld.w fun c o => if okCat c ∧ okOld o then some (.tup [.bool (forgedM c o).1, .int .i64 (forgedM c o).2]) else none
theorem forged_ok : ∀ xs v, forged_s xs = some v → PureV Tryd.prog 20 xs v :=
  spw2_ok fun c o v h => by have h := someIf h; rw [← h.2]; exact forged_p c o h.1.1 h.1.2
end Go.Proofs
