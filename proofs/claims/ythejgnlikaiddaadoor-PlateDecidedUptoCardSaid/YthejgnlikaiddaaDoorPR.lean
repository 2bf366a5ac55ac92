/- Texts of a proof: lemmas. -/
import Derived.Test.YthejgnlikaiddaaDoorPL
import Derived.Test.YthejgnlikaiddaaDoorPQ
set_option linter.unusedSimpArgs false
set_option linter.unusedVariables false
set_option maxRecDepth 100000
namespace Go.Proofs
open Go Go.Mu

def pNext_s := spw2 tyCat.w tyOld.w fun c o => if okCat c ∧ okOld o then some (.tup [.int .i64 (nextM c o).1, .int .i64 (nextM c o).2.1, .int .i64 (nextM c o).2.2]) else none
theorem pNext_ok : ∀ xs v, pNext_s xs = some v → PureV Tryd.prog 22 xs v :=
  spw2_ok fun c o v h => by have h := someIf h; rw [← h.2]; exact pNext_p c o h.1.1 h.1.2
def pKnown_s := spw3 tyCat.w tyOld.w tyI.w fun c o f => if okCat c ∧ okOld o ∧ -4294967296 ≤ c.features ∧ c.features ≤ 4294967296 then some (.tup [isv (knownFM c o f).1, .int .i64 (knownFM c o f).2]) else none
theorem pKnown_ok : ∀ xs v, pKnown_s xs = some v → PureV Tryd.prog 30 xs v :=
  spw3_ok fun c o f v h => by have h := someIf h; rw [← h.2]; exact pKnown_p c o f h.1.1 h.1.2.1 h.1.2.2
def pModels_s := spw2 tyCat.w tyOld.w fun c o => if okCat c ∧ okOld o then some (.tup [isv (modelsM c o).1, .int .i64 (modelsM c o).2]) else none
theorem pModels_ok : ∀ xs v, pModels_s xs = some v → PureV Tryd.prog 35 xs v :=
  spw2_ok fun c o v h => by have h := someIf h; rw [← h.2]; exact pModels_p c o h.1.1 h.1.2
theorem to_p (a b : Int) : PureV Tryd.prog 25 [.int .i64 a, .int .i64 b] (Rng.mk a b).av := by
  refine PureV.of_ev (E := Tryd.E 8 (fun _ => ([], [])) fs0) (Tryd.envOK 8 (fun _ => ([], [])) fs0 fs0_ok) (Rng.plain _) Tryd.kp25 Tryd.func25 rfl (by kernel_rfl) (by simp [Tryd.E]) (Callable.of Tryd.func25 (by kernel_rfl) (by kernel_rfl)) (by kernel_rfl) ?_
  intro σ
  simp only [Rng.av]
  simp -implicitDefEqProofs (maxSteps := 2000000) (disch := omega) only [go_sem, reduceCtorEq, Nat.reduceAdd, Nat.reduceSub, Nat.reduceMul, Nat.reduceLT, Nat.reduceLeDiff, Nat.reduceEqDiff, Nat.reduceBEq, Int.reduceToNat, Int.reduceLT, Int.reduceLE, Int.reduceEq, Int.reduceNeg, Int.reduceAdd, Int.reduceSub, Int.reduceMul, ↓reduceIte, Int.reduceBEq, Int.reduceBNe]
def to_s := spec2 tI tI fun a b => some (Rng.mk a b).av
theorem to_ok : ∀ xs v, to_s xs = some v → PureV Tryd.prog 25 xs v :=
  spec2_ok fun a b v h => by simp only [Option.some.injEq] at h; rw [← h]; exact to_p a b
theorem Old_plain (o : Old) : Plain o.av := .agg (by simp; exact ⟨isv_plain _, .str, .int⟩)
theorem lold_p (s : ByteArray) (n : Int) (l : List Int) : PureV Tryd.prog 54 [.str s, .int .i64 n, isv l] (Old.mk l s n).av := by
  refine PureV.of_ev (E := Tryd.E 11 (fun _ => ([], [])) fs0) (Tryd.envOK 11 (fun _ => ([], [])) fs0 fs0_ok) (Old_plain _) Tryd.kp54 Tryd.func54 rfl (by kernel_rfl) (by simp [Tryd.E]) (Callable.of Tryd.func54 (by kernel_rfl) (by kernel_rfl)) (by kernel_rfl) ?_
  intro σ
  simp only [Old.av, isv]
  simp -implicitDefEqProofs (maxSteps := 2000000) (disch := omega) only [go_sem, reduceCtorEq, Nat.reduceAdd, Nat.reduceSub, Nat.reduceMul, Nat.reduceLT, Nat.reduceLeDiff, Nat.reduceEqDiff, Nat.reduceBEq, Int.reduceToNat, Int.reduceLT, Int.reduceLE, Int.reduceEq, Int.reduceNeg, Int.reduceAdd, Int.reduceSub, Int.reduceMul, ↓reduceIte, Int.reduceBEq, Int.reduceBNe]
def lold_s := spw3 tyS.w tyI.w tyIs.w fun s n l => some (.agg [isv l, .str s, .int .i64 n])
theorem lold_ok : ∀ xs v, lold_s xs = some v → PureV Tryd.prog 54 xs v :=
  spw3_ok fun s n l v h => by simp only [Option.some.injEq] at h; rw [← h]; exact lold_p s n l
def fs17 (f : FuncId) (xs : List AV) : Option AV := if f = 22 then pNext_s xs else if f = 30 then pKnown_s xs else if f = 35 then pModels_s xs else if f = 25 then to_s xs else if f = 54 then lold_s xs else if f = 34 then sameInts_s xs else fs16 f xs
theorem fs17_ok : ∀ f xs v, fs17 f xs = some v → PureV Tryd.prog f xs v := by
  intro f xs v h
  unfold fs17 at h
  split at h
  · rename_i e; subst e; exact pNext_ok _ _ h
  split at h
  · rename_i e; subst e; exact pKnown_ok _ _ h
  split at h
  · rename_i e; subst e; exact pModels_ok _ _ h
  split at h
  · rename_i e; subst e; exact to_ok _ _ h
  split at h
  · rename_i e; subst e; exact lold_ok _ _ h
  split at h
  · rename_i e; subst e; exact sameInts_ok _ _ h
  exact fs16_ok _ _ _ h
attribute [go_sem] fs17 pNext_s pKnown_s pModels_s to_s lold_s sameInts_s
/-- The catalogue of the chapter's examples. -/
def worksC : Cat := ⟨2, [⟨1920, [[1, 1], [1, 2]], [⟨100, 199⟩, ⟨200, 299⟩]⟩, ⟨1921, [[1, 2], [2, 2]], [⟨250, 349⟩, ⟨350, 399⟩]⟩]⟩
theorem Model_plain (m : Model) : Plain m.av := .agg (by simp; exact ⟨.int, .map fun x _ => .cells_list (Plain.ints (xs := x)), .map fun x _ => Rng.plain x⟩)
theorem Cat_plain (c : Cat) : Plain c.av := .agg (by simp; exact ⟨.int, .map fun x _ => Model_plain x⟩)
/-- As literals give them: with marks. -/
def Model.avF (m : Model) : AV := .agg [.int .i64 m.first, .list .full 1 (m.looks.map isv), .list .full 2 (m.nums.map Rng.av)]
def worksF : AV := .agg [.int .i64 2, .list .full 3 (worksC.models.map Model.avF)]
theorem plain_full {sz : Nat} {xs : List AV} (h : Plain (.list .no sz xs)) : Plain (.list .full sz xs) := fun n => by
  cases h n with
  | list _ _ _ h1 h2 => exact .list _ _ _ (fun id e => by cases e) h2
theorem Model_plainF (m : Model) : Plain m.avF := .agg (by simp; exact ⟨.int, plain_full (.map fun x _ => .cells_list (Plain.ints (xs := x))), plain_full (.map fun x _ => Rng.plain x)⟩)
theorem worksF_plain : Plain worksF := .agg (by simp; exact ⟨.int, plain_full (.map fun x _ => Model_plainF x)⟩)
theorem works_p : PureV Tryd.prog 53 [] worksF := by
  refine PureV.of_ev (E := Tryd.E 17 (fun _ => ([], [])) fs17) (Tryd.envOK 17 (fun _ => ([], [])) fs17 fs17_ok) (worksF_plain) Tryd.kp53 Tryd.func53 rfl (by kernel_rfl) (by simp [Tryd.E]) (Callable.of Tryd.func53 (by kernel_rfl) (by kernel_rfl)) (by kernel_rfl) ?_
  intro σ
  simp only [worksF, worksC, Model.avF, List.map_cons, List.map_nil, isv, Rng.av]
  simp -implicitDefEqProofs (maxSteps := 2000000) (disch := omega) only [go_sem, reduceCtorEq, Nat.reduceAdd, Nat.reduceSub, Nat.reduceMul, Nat.reduceLT, Nat.reduceLeDiff, Nat.reduceEqDiff, Nat.reduceBEq, Int.reduceToNat, Int.reduceLT, Int.reduceLE, Int.reduceEq, Int.reduceNeg, Int.reduceAdd, Int.reduceSub, Int.reduceMul, ↓reduceIte, Int.reduceBEq, Int.reduceBNe, Rng.av]
def works_s : List AV → Option AV
  | [] => some (.agg [.int .i64 2, .list .full 3 (worksC.models.map Model.avF)])
  | _ => none
theorem works_ok : ∀ xs v, works_s xs = some v → PureV Tryd.prog 53 xs v := by
  intro xs v h
  unfold works_s at h
  split at h
  · simp only [Option.some.injEq] at h; rw [← h]; exact works_p
  · cases h
theorem decModel_avF {m : Model} : decModel m.avF = some m := by
  obtain ⟨f, l, n⟩ := m
  have h2 : decL 2 decRng (.list .full 2 (n.map Rng.av)) = some n := decL_self (f := Rng.av) fun _ => decRng_av _
  simp only [Model.avF, decModel, decL_iss, h2, Option.bind_some]
theorem worksF_dec : decCat (.agg [.int .i64 2, .list .full 3 (worksC.models.map Model.avF)]) = some worksC := by
  have h3 : decL 3 decModel (.list .full 3 (worksC.models.map Model.avF)) = some worksC.models := decL_self (f := Model.avF) fun _ => decModel_avF
  simp only [decCat, h3, Option.bind_some]
  rfl
theorem sameLists_p (a b : List (List Int)) (hl : a.length ≤ 4294967296) (hl2 : b.length ≤ 4294967296) (ha : ∀ x ∈ a, x.length ≤ 4294967296) (hb : ∀ x ∈ b, x.length ≤ 4294967296) : PureV Tryd.prog 31 [.list .no 1 (a.map isv), .list .no 1 (b.map isv)] (.bool (decide (a = b))) := by
  refine PureV.of_ev (E := Tryd.E 31 Tryd.ord31 fs17) (Tryd.envOK 31 Tryd.ord31 fs17 fs17_ok) (.bool) Tryd.kp31 Tryd.func31 rfl (by kernel_rfl) (by simp [Tryd.E]) (Callable.of Tryd.func31 (by kernel_rfl) (by kernel_rfl)) (by kernel_rfl) ?_
  intro σ
  by_cases hlen : a.length = b.length
  · have hz : ((a.length : Int) = b.length) := by omega
    simp -implicitDefEqProofs (maxSteps := 2000000) (disch := omega) only [go_sem, reduceCtorEq, Nat.reduceAdd, Nat.reduceSub, Nat.reduceMul, Nat.reduceLT, Nat.reduceLeDiff, Nat.reduceEqDiff, Nat.reduceBEq, Int.reduceToNat, Int.reduceLT, Int.reduceLE, Int.reduceEq, Int.reduceNeg, Int.reduceAdd, Int.reduceSub, Int.reduceMul, ↓reduceIte, Int.reduceBEq, Int.reduceBNe]
    refine ARun.loopJ (Tryd.envOK 31 Tryd.ord31 fs17 fs17_ok) (α := Nat × Bool) (fun p => a.length - p.1) (fun p τ => τ = σ ∧ p.1 ≤ a.length ∧ p.2 = decide (a.take p.1 = b.take p.1)) (fun p => [(5, .bool p.2), (6, .int .i64 p.1)]) (0, true) (by kernel_rfl) (by simp [upd, ins, subF, lookA]) ⟨rfl, Nat.zero_le _, by simp⟩ ?_
    rintro ⟨i, c⟩ τ ⟨rfl, hi, hc⟩ ih
    simp only at hi hc ih
    cases c
    · simp -implicitDefEqProofs (maxSteps := 2000000) (disch := omega) only [go_sem, reduceCtorEq, Nat.reduceAdd, Nat.reduceSub, Nat.reduceMul, Nat.reduceLT, Nat.reduceLeDiff, Nat.reduceEqDiff, Nat.reduceBEq, Int.reduceToNat, Int.reduceLT, Int.reduceLE, Int.reduceEq, Int.reduceNeg, Int.reduceAdd, Int.reduceSub, Int.reduceMul, ↓reduceIte, Int.reduceBEq, Int.reduceBNe]
      have : ¬ a = b := fun e => by subst e; simp at hc
      simp [this]
    · have htk : a.take i = b.take i := by simpa using hc
      by_cases hlt : i < a.length
      · have hst := same_step hlen hlt htk
        have hia : idx (a.map isv) (i : Int) = some (isv a[i]) := idx_nat hlt
        have hib : idx (b.map isv) (i : Int) = some (isv (b[i]'(by omega))) := idx_nat (by omega)
        have hxl := ha _ (List.getElem_mem hlt)
        have hyl := hb _ (List.getElem_mem (show i < b.length by omega))
        generalize a[i] = x at hst hia hxl
        generalize b[i]'(by omega) = y at hst hib hyl
        clear hc htk
        simp -implicitDefEqProofs (maxSteps := 2000000) (disch := omega) only [go_sem, reduceCtorEq, Nat.reduceAdd, Nat.reduceSub, Nat.reduceMul, Nat.reduceLT, Nat.reduceLeDiff, Nat.reduceEqDiff, Nat.reduceBEq, Int.reduceToNat, Int.reduceLT, Int.reduceLE, Int.reduceEq, Int.reduceNeg, Int.reduceAdd, Int.reduceSub, Int.reduceMul, ↓reduceIte, Int.reduceBEq, Int.reduceBNe, hia, hib]
        refine ⟨fun h => (ih (i + 1, true) _ (by simp only; omega) ⟨rfl, by simp only; omega, ?_⟩).castS rfl (by simp [upd, ins, subF, lookA]), fun h => (ih (i + 1, false) _ (by simp only; omega) ⟨rfl, by simp only; omega, ?_⟩).castS rfl (by simp [upd, ins, subF, lookA])⟩
        · simp [hst, h]
        · simp [hst, h]
      · have : i = a.length := by omega
        subst this
        simp -implicitDefEqProofs (maxSteps := 2000000) (disch := omega) only [go_sem, reduceCtorEq, Nat.reduceAdd, Nat.reduceSub, Nat.reduceMul, Nat.reduceLT, Nat.reduceLeDiff, Nat.reduceEqDiff, Nat.reduceBEq, Int.reduceToNat, Int.reduceLT, Int.reduceLE, Int.reduceEq, Int.reduceNeg, Int.reduceAdd, Int.reduceSub, Int.reduceMul, ↓reduceIte, Int.reduceBEq, Int.reduceBNe]
        have : a = b := by rwa [List.take_length, hlen, List.take_length] at htk
        simp [this]
  · have hz : ¬ ((a.length : Int) = b.length) := by omega
    have : ¬ a = b := fun e => hlen (by rw [e])
    simp -implicitDefEqProofs (maxSteps := 2000000) (disch := omega) only [go_sem, reduceCtorEq, Nat.reduceAdd, Nat.reduceSub, Nat.reduceMul, Nat.reduceLT, Nat.reduceLeDiff, Nat.reduceEqDiff, Nat.reduceBEq, Int.reduceToNat, Int.reduceLT, Int.reduceLE, Int.reduceEq, Int.reduceNeg, Int.reduceAdd, Int.reduceSub, Int.reduceMul, ↓reduceIte, Int.reduceBEq, Int.reduceBNe]
    refine ARun.once (Tryd.envOK 31 Tryd.ord31 fs17 fs17_ok) (by kernel_rfl) ?_
    simp -implicitDefEqProofs (maxSteps := 2000000) (disch := omega) only [go_sem, reduceCtorEq, Nat.reduceAdd, Nat.reduceSub, Nat.reduceMul, Nat.reduceLT, Nat.reduceLeDiff, Nat.reduceEqDiff, Nat.reduceBEq, Int.reduceToNat, Int.reduceLT, Int.reduceLE, Int.reduceEq, Int.reduceNeg, Int.reduceAdd, Int.reduceSub, Int.reduceMul, ↓reduceIte, Int.reduceBEq, Int.reduceBNe]
    simp [this]
def sameLists_s := spw2 tyIss.w tyIss.w fun a b => if (a.length ≤ 4294967296 ∧ ∀ x ∈ a, x.length ≤ 4294967296) ∧ (b.length ≤ 4294967296 ∧ ∀ x ∈ b, x.length ≤ 4294967296) then some (.bool (decide (a = b))) else none
theorem sameLists_ok : ∀ xs v, sameLists_s xs = some v → PureV Tryd.prog 31 xs v :=
  spw2_ok fun a b v h => by have h := someIf h; rw [← h.2]; exact sameLists_p a b h.1.1.1 h.1.2.1 h.1.1.2 h.1.2.2
theorem has_p' (l : List (List Int)) (t : List Int) (hl : l.length ≤ 4294967296) (ha : ∀ x ∈ l, x.length ≤ 4294967296) (ht : t.length ≤ 4294967296) : PureV Tryd.prog 18 [.list .no 1 (l.map isv), isv t] (.bool (decide (t ∈ l))) := by
  refine PureV.of_ev (E := Tryd.E 18 (fun _ => ([], [])) fs17) (Tryd.envOK 18 (fun _ => ([], [])) fs17 fs17_ok) (.bool) Tryd.kp18 Tryd.func18 rfl (by kernel_rfl) (by simp [Tryd.E]) (Callable.of Tryd.func18 (by kernel_rfl) (by kernel_rfl)) (by kernel_rfl) ?_
  intro σ
  have ht2 : isv t = .list .no 1 (t.map (.int .i64)) := rfl
  rw [ht2]
  simp -implicitDefEqProofs (maxSteps := 2000000) (disch := omega) only [go_sem, reduceCtorEq, Nat.reduceAdd, Nat.reduceSub, Nat.reduceMul, Nat.reduceLT, Nat.reduceLeDiff, Nat.reduceEqDiff, Nat.reduceBEq, Int.reduceToNat, Int.reduceLT, Int.reduceLE, Int.reduceEq, Int.reduceNeg, Int.reduceAdd, Int.reduceSub, Int.reduceMul, ↓reduceIte, Int.reduceBEq, Int.reduceBNe]
  refine ARun.forS (Tryd.envOK 18 (fun _ => ([], [])) fs17 fs17_ok) l.length (fun i => t ∉ l.take i) (fun i => [(5, .int .i64 i)]) (fun _ _ => σ) [] (by kernel_rfl) rfl (by simp [upd, ins, subF, lookA]) (by simp) ?_ ?_
  · intro i j hi hp ih
    have hli : idx (l.map isv) (i : Int) = some (isv l[i]) := idx_nat hi
    have hyl := ha _ (List.getElem_mem hi)
    have hmem : l[i] ∈ l := List.getElem_mem hi
    have htk : t ∉ l.take (i + 1) ↔ ¬ l[i] = t := by
      rw [List.take_succ_eq_append_getElem hi, List.mem_append, List.mem_singleton]
      constructor
      · intro h e; exact h (.inr e.symm)
      · rintro h (h2 | h2)
        · exact hp h2
        · exact h h2.symm
    generalize l[i] = y at hli hyl htk hmem
    clear hp
    simp -implicitDefEqProofs (maxSteps := 2000000) (disch := omega) only [go_sem, reduceCtorEq, Nat.reduceAdd, Nat.reduceSub, Nat.reduceMul, Nat.reduceLT, Nat.reduceLeDiff, Nat.reduceEqDiff, Nat.reduceBEq, Int.reduceToNat, Int.reduceLT, Int.reduceLE, Int.reduceEq, Int.reduceNeg, Int.reduceAdd, Int.reduceSub, Int.reduceMul, ↓reduceIte, Int.reduceBEq, Int.reduceBNe, hli]
    refine ⟨fun h => ?_, fun h => (ih (htk.2 h) []).castS rfl (by simp [upd, ins, subF, lookA])⟩
    subst h; simp [hmem]
  · intro j hp
    rw [List.take_length] at hp
    simp -implicitDefEqProofs (maxSteps := 2000000) (disch := omega) only [go_sem, reduceCtorEq, Nat.reduceAdd, Nat.reduceSub, Nat.reduceMul, Nat.reduceLT, Nat.reduceLeDiff, Nat.reduceEqDiff, Nat.reduceBEq, Int.reduceToNat, Int.reduceLT, Int.reduceLE, Int.reduceEq, Int.reduceNeg, Int.reduceAdd, Int.reduceSub, Int.reduceMul, ↓reduceIte, Int.reduceBEq, Int.reduceBNe]
    simp [hp]
def lhas_s := spw2 tyIss.w tyIs.w fun l t => if (l.length ≤ 4294967296 ∧ ∀ x ∈ l, x.length ≤ 4294967296) ∧ t.length ≤ 4294967296 then some (.bool (decide (t ∈ l))) else none
theorem lhas_ok : ∀ xs v, lhas_s xs = some v → PureV Tryd.prog 18 xs v :=
  spw2_ok fun a b v h => by have h := someIf h; rw [← h.2]; exact has_p' a b h.1.1.1 h.1.1.2 h.1.2
def fs18 (f : FuncId) (xs : List AV) : Option AV := if f = 53 then works_s xs else if f = 31 then sameLists_s xs else if f = 18 then lhas_s xs else fs17 f xs
theorem fs18_ok : ∀ f xs v, fs18 f xs = some v → PureV Tryd.prog f xs v := by
  intro f xs v h
  unfold fs18 at h
  split at h
  · rename_i e; subst e; exact works_ok _ _ h
  split at h
  · rename_i e; subst e; exact sameLists_ok _ _ h
  split at h
  · rename_i e; subst e; exact lhas_ok _ _ h
  exact fs17_ok _ _ _ h
attribute [go_sem] fs18 works_s sameLists_s lhas_s
end Go.Proofs
