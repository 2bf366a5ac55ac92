/- Texts of a proof: lemmas. -/
import Derived.Test.YtbkjffpembflcaaGreatBC
import Derived.Test.YtbkjffpembflcaaGreatAK
set_option linter.unusedSimpArgs false
set_option linter.unusedVariables false
set_option maxRecDepth 100000
namespace Go.Proofs
open Go Go.Mu

/-- Lists of so many numbers, ascending, from a on and below n. -/
def comb (n : Nat) : Nat → Nat → List (List Int)
  | 0, _ => [[]]
  | m + 1, a => (List.range (n - a)).flatMap fun k => (comb n m (a + k + 1)).map fun l => ((a + k : Nat) : Int) :: l
/-- Lists that begin with a number. -/
def combK (n m a k : Nat) : List (List Int) := (comb n m (a + k + 1)).map fun l => ((a + k : Nat) : Int) :: l
theorem comb_succ {n m a : Nat} : comb n (m + 1) a = (List.range (n - a)).flatMap (combK n m a) := rfl
theorem comb_mem {n : Nat} : ∀ {m a : Nat} {l : List Int}, l ∈ comb n m a → l.length = m ∧ (∀ x ∈ l, (a : Int) ≤ x ∧ x < n) ∧ l.Nodup
  | 0, a, l, h => by simp [comb] at h; subst h; simp
  | m + 1, a, l, h => by
    obtain ⟨k, hk, h2⟩ := List.mem_flatMap.1 h
    obtain ⟨u, hu, rfl⟩ := List.mem_map.1 h2
    obtain ⟨h3, h4, h5⟩ := comb_mem hu
    have hk' := List.mem_range.1 hk
    refine ⟨by simp [h3], fun x hx => ?_, ?_⟩
    · rcases List.mem_cons.1 hx with rfl | hx
      · omega
      · have := h4 x hx; omega
    · rw [List.nodup_cons]
      exact ⟨fun hm => by have := h4 _ hm; omega, h5⟩
theorem comb_len {n : Nat} : ∀ {m a : Nat}, (comb n m a).length ≤ (n + 1) ^ m
  | 0, a => by simp [comb]
  | m + 1, a => by
    simp only [comb]
    refine Nat.le_trans (flatMap_len (b := (n + 1) ^ m) _ fun k _ => by rw [List.length_map]; exact comb_len) ?_
    rw [Nat.pow_succ, Nat.mul_comm]
    exact Nat.mul_le_mul_left _ (by omega)
theorem comb_len6 {n m a : Nat} (hn : n ≤ 6) (hm : m ≤ 6) : (comb n m a).length ≤ 117649 := by
  refine Nat.le_trans comb_len (Nat.le_trans (Nat.pow_le_pow_left (show n + 1 ≤ 7 by omega) m) (Nat.le_trans (Nat.pow_le_pow_right (by omega) hm) (by decide)))
theorem comb_all : ∀ n : Nat, ∀ a, (List.range (n - a)).map (fun (k : Nat) => ((a + k : Nat) : Int)) ∈ comb n (n - a) a := by
  intro n a
  generalize hm : n - a = m
  induction m generalizing a with
  | zero => simp [comb]
  | succ m ih =>
    simp only [comb, List.mem_flatMap, List.mem_range, List.mem_map]
    refine ⟨0, by omega, _, ih (a + 0 + 1) (by omega), ?_⟩
    rw [List.range_succ_eq_map, List.map_cons, List.map_map]
    congr 1
    apply List.map_congr_left
    intro k _
    simp only [Function.comp]; omega
/-- Readings but some. -/
def keepL (l : List Int) (rs : List Rd) (i : Nat) : List Rd := ((List.range i).filter fun (k : Nat) => !l.contains (k : Int)).map fun k => rs.getD k default
def without (e : Ear) (l : List Int) : Ear := ⟨e.slack, e.tones, keepL l e.rds e.rds.length⟩
theorem keepL_zero {l : List Int} {rs : List Rd} : keepL l rs 0 = [] := rfl
theorem keepL_succ {l : List Int} {rs : List Rd} {i : Nat} (h : i < rs.length) : keepL l rs (i + 1) = keepL l rs i ++ (if l.contains (i : Int) = true then [] else [rs[i]]) := by
  unfold keepL
  rw [List.range_succ, List.filter_append, List.map_append]
  congr 1
  rw [List.filter_cons, List.filter_nil]
  cases hc : l.contains (i : Int)
  · simp only [hc, Bool.not_false, if_true, Bool.false_eq_true, if_false, List.map_cons, List.map_nil, List.getD, List.getElem?_eq_getElem h, Option.getD_some]
  · simp only [hc, Bool.not_true, Bool.false_eq_true, if_true, if_false, List.map_nil]
theorem keepL_len {l : List Int} {rs : List Rd} {i : Nat} : (keepL l rs i).length ≤ i := by
  unfold keepL
  rw [List.length_map]
  exact Nat.le_trans (List.length_filter_le _ _) (by simp)
theorem keepL_mem {l : List Int} {rs : List Rd} {r : Rd} (h : r ∈ keepL l rs rs.length) : r ∈ rs := by
  unfold keepL at h
  obtain ⟨k, hk, rfl⟩ := List.mem_map.1 h
  have hk' := List.mem_range.1 (List.mem_filter.1 hk).1
  simp only [List.getD, List.getElem?_eq_getElem hk', Option.getD_some]
  exact List.getElem_mem _
theorem ck_without {e : Ear} {l : List Int} (h : ck e = 0) : ck (without e l) = 0 := by
  have hrd := ck_rd h
  have h2 : firstE (fun r => ckR r e.tones.length) (keepL l e.rds e.rds.length) = 0 := firstE_zero fun i hi => hrd _ (keepL_mem (List.getElem_mem hi))
  have hl : (keepL l e.rds e.rds.length).length ≤ e.rds.length := keepL_len
  simp only [ck, without] at h ⊢
  rw [h2]
  grind
theorem allT_none {e : Ear} (he : OkE e) (hr : e.rds = []) : ∀ (m : Nat) (t : List Int) (a : Nat), a + m = e.tones.length → allT e m t a ≠ []
  | 0, t, a, _ => by simp [allT, hr]
  | m + 1, t, a, h => by
    simp only [allT]
    have hx := he.tone _ (List.getElem_mem (show a < e.tones.length by omega))
    rw [getD_tone (by omega)]
    intro hn
    rw [List.flatMap_eq_nil_iff] at hn
    exact allT_none he hr m _ (a + 1) (by omega) (hn 0 (List.mem_range.2 (by omega)))
def fewAt (e : Ear) (m : Nat) : List (List Int) := (comb e.rds.length m 0).filter fun l => mayL (without e l)
def fewFrom (e : Ear) : Nat → Nat → List (List Int)
  | 0, _ => []
  | f + 1, m => if fewAt e m = [] then fewFrom e f (m + 1) else fewAt e m
/-- The fewest readings without which there is a truth. -/
def fewL (e : Ear) : List (List Int) := fewFrom e (e.rds.length + 1) 0
theorem fewFrom_eq {e : Ear} : ∀ {f m k : Nat}, (∀ j, m ≤ j → j < k → fewAt e j = []) → m ≤ k → k < m + f → fewAt e k ≠ [] → fewFrom e f m = fewAt e k
  | 0, m, k, _, h1, h2, _ => by omega
  | f + 1, m, k, h, h1, h2, h3 => by
    simp only [fewFrom]
    by_cases hm : m = k
    · subst hm; rw [if_neg h3]
    · rw [if_pos (h m (Nat.le_refl _) (by omega))]
      exact fewFrom_eq (fun j a b => h j (by omega) b) (by omega) (by omega) h3
theorem fewL_eq {e : Ear} {k : Nat} (h : ∀ j, j < k → fewAt e j = []) (hk : k ≤ e.rds.length) (hn : fewAt e k ≠ []) : fewL e = fewAt e k := fewFrom_eq (fun j _ hj => h j hj) (by omega) (by omega) hn
theorem few_all {e : Ear} (h : ck e = 0) : fewAt e e.rds.length ≠ [] := by
  have hm := comb_all e.rds.length 0
  simp only [Nat.sub_zero, Nat.zero_add] at hm
  intro hn
  have : ∀ l ∈ comb e.rds.length e.rds.length 0, mayL (without e l) = false := fun l hl => by
    cases hc : mayL (without e l)
    · rfl
    · have : l ∈ fewAt e e.rds.length := List.mem_filter.2 ⟨hl, hc⟩
      rw [hn] at this; cases this
  have h1 := this _ hm
  have hw := ck_without (l := (List.range e.rds.length).map fun (k : Nat) => (k : Int)) h
  have hr : keepL ((List.range e.rds.length).map fun (k : Nat) => (k : Int)) e.rds e.rds.length = [] := by
    unfold keepL
    rw [List.map_eq_nil_iff, List.filter_eq_nil_iff]
    intro k hk
    simp only [Bool.not_eq_true', Bool.not_eq_false]
    rw [List.contains_iff_mem]
    exact List.mem_map.2 ⟨k, hk, rfl⟩
  unfold mayL at h1
  have h2 : (truthsL (without e ((List.range e.rds.length).map fun (k : Nat) => (k : Int)))) = [] := by simpa using h1
  exact allT_none (okE_of_ck hw) hr _ _ _ (by simp [without]) h2
theorem few_ex {e : Ear} (h : ck e = 0) : ∃ k, k ≤ e.rds.length ∧ (∀ j, j < k → fewAt e j = []) ∧ fewAt e k ≠ [] := by
  have key : ∀ d : Nat, ∀ m : Nat, m + d = e.rds.length → (∀ j, j < m → fewAt e j = []) → ∃ k, k ≤ e.rds.length ∧ (∀ j, j < k → fewAt e j = []) ∧ fewAt e k ≠ [] := by
    intro d
    induction d with
    | zero => intro m hm hj; exact ⟨m, by omega, hj, by have : m = e.rds.length := by omega
                                                        rw [this]; exact few_all h⟩
    | succ d ih =>
      intro m hm hj
      by_cases hn : fewAt e m = []
      · exact ih (m + 1) (by omega) fun j hj' => by
          by_cases hjm : j = m
          · rw [hjm]; exact hn
          · exact hj j (by omega)
      · exact ⟨m, by omega, hj, hn⟩
  exact key e.rds.length 0 (by omega) fun j hj => by omega
theorem fewL_ne {e : Ear} (h : ck e = 0) : fewL e ≠ [] := by
  obtain ⟨k, h1, h2, h3⟩ := few_ex h
  rw [fewL_eq h2 h1 h3]; exact h3
theorem fewL_mem {e : Ear} (h : ck e = 0) : ∃ k, k ≤ e.rds.length ∧ ∀ l ∈ fewL e, l ∈ comb e.rds.length k 0 := by
  obtain ⟨k, h1, h2, h3⟩ := few_ex h
  rw [fewL_eq h2 h1 h3]; exact ⟨k, h1, fun l hl => (List.mem_filter.1 hl).1⟩
theorem ck_rn {e : Ear} (h : ck e = 0) : e.rds.length ≤ 6 := by simp only [ck] at h; grind
theorem fewL_len {e : Ear} (h : ck e = 0) : (fewL e).length ≤ 117649 := by
  obtain ⟨k, h1, h2, h3⟩ := few_ex h
  have := ck_rn h
  rw [fewL_eq h2 h1 h3]
  exact Nat.le_trans (List.length_filter_le _ _) (comb_len6 (by omega) (by omega))
/-- In how many lists a number is. -/
def hasN (L : List (List Int)) (i : Int) : Nat := (L.filter fun l => l.contains i).length
def falseL (e : Ear) : List Int × Int := if ck e = 0 then ((fewL e).headD [], 0) else ([], ck e)
def doubtL (e : Ear) : List Int × Int := if ck e = 0 then ((List.range e.rds.length).map fun (i : Nat) => verd (hasN (fewL e) (i : Int)) (fewL e).length, 0) else ([], ck e)
theorem head_get {L : List (List Int)} (h : 0 < L.length) : L.headD [] = L[0] := by cases L with | nil => simp at h | cons a b => rfl
theorem count_has {l : List Int} {i : Int} (h : l.Nodup) : l.count i = if l.contains i = true then 1 else 0 := by
  by_cases hm : i ∈ l
  · rw [List.Nodup.count h, if_pos hm, if_pos (by simpa using hm)]
  · rw [List.Nodup.count h, if_neg hm, if_neg (by simpa using hm)]
end Go.Proofs
set_option linter.unusedSimpArgs false
set_option linter.unusedVariables false
set_option maxRecDepth 100000
namespace Go.Proofs
open Go Go.Mu

theorem AYield.weaken {P : Program} {r : Nat} {l l' : List AV} {σ : List AObj} {Q : AV → List AObj → Prop} (h : wkL wk l l') (h0 : AYield P r l' σ Q) : AYield P r l σ Q := fun K w cargs hR hV => h0 K w cargs hR (hV.weaken h)
/-- The first place of a number in a list; -1 if it is not there. -/
def placeL (l : List Int) (x : Int) : Int := if x ∈ l then (l.idxOf x : Int) else -1
theorem place_at {l : List Int} {x : Int} {i : Nat} (hi : i < l.length) (h : x ∉ l.take i) (e : l[i] = x) : placeL l x = i := by
  have hm : x ∈ l := by rw [← e]; exact List.getElem_mem _
  unfold placeL
  rw [if_pos hm]
  have hs : l = l.take i ++ l[i] :: l.drop (i + 1) := by rw [← List.drop_eq_getElem_cons hi, List.take_append_drop]
  have : l.idxOf x = i := by
    conv => lhs; rw [hs]
    rw [List.idxOf_append, if_neg h, e]
    simp [List.idxOf_cons]; omega
  rw [this]
theorem place_nonneg {l : List Int} {x : Int} : decide (0 ≤ placeL l x) = l.contains x := by
  unfold placeL
  by_cases h : x ∈ l
  · rw [if_pos h]; simp [h]
  · rw [if_neg h]; simp [h]
theorem notin_succ {l : List Int} {x : Int} {i : Nat} (hi : i < l.length) (h : x ∉ l.take i) (e : l[i] ≠ x) : x ∉ l.take (i + 1) := by
  rw [List.take_succ_eq_append_getElem hi, List.mem_append]
  intro hm
  rcases hm with hm | hm
  · exact h hm
  · simp at hm; exact e hm.symm
theorem sindex_p (l : List Int) (x : Int) (hl : l.length ≤ 4294967296) : PureV Tryz.prog 99 [.list .no 1 (l.map (.int .i64)), .int .i64 x] (.int .i64 (placeL l x)) := by
  refine PureV.of_ev (E := Tryz.E 19 (fun _ => ([], [])) fs0) (Tryz.envOK 19 (fun _ => ([], [])) fs0 fs0_ok) (.int) Tryz.kp99 Tryz.func99 rfl (by kernel_rfl) (by simp [Tryz.E]) (Callable.of Tryz.func99 (by kernel_rfl) (by kernel_rfl)) (by kernel_rfl) ?_
  intro σ
  simp -implicitDefEqProofs (maxSteps := 2000000) (disch := omega) only [go_sem, reduceCtorEq, Nat.reduceAdd, Nat.reduceSub, Nat.reduceMul, Nat.reduceLT, Nat.reduceLeDiff, Nat.reduceEqDiff, Nat.reduceBEq, Int.reduceToNat, Int.reduceLT, Int.reduceLE, Int.reduceEq, Int.reduceNeg, Int.reduceAdd, Int.reduceSub, Int.reduceMul, ↓reduceIte, Int.reduceBEq, Int.reduceBNe]
  refine ARun.forS (Tryz.envOK 19 (fun _ => ([], [])) fs0 fs0_ok) l.length (fun i => x ∉ l.take i) (fun i => [(8, .int .i64 i)]) (fun _ _ => σ) [] (by kernel_rfl) rfl (by simp [upd, ins, subF, lookA]) (by simp) ?_ ?_
  · intro i j hi hp ih
    have hli : idx (l.map (AV.int .i64)) (i : Int) = some (.int .i64 l[i]) := by rw [idx_nat hi]
    have hat := place_at (x := x) hi hp
    have hns := notin_succ (x := x) hi hp
    generalize l[i] = y at hli hat hns
    clear hp
    by_cases hy : x = y
    · rw [hat hy.symm]
      simp -implicitDefEqProofs (maxSteps := 2000000) (disch := omega) only [go_sem, reduceCtorEq, Nat.reduceAdd, Nat.reduceSub, Nat.reduceMul, Nat.reduceLT, Nat.reduceLeDiff, Nat.reduceEqDiff, Nat.reduceBEq, Int.reduceToNat, Int.reduceLT, Int.reduceLE, Int.reduceEq, Int.reduceNeg, Int.reduceAdd, Int.reduceSub, Int.reduceMul, ↓reduceIte, Int.reduceBEq, Int.reduceBNe, hli]
    · simp -implicitDefEqProofs (maxSteps := 2000000) (disch := omega) only [go_sem, reduceCtorEq, Nat.reduceAdd, Nat.reduceSub, Nat.reduceMul, Nat.reduceLT, Nat.reduceLeDiff, Nat.reduceEqDiff, Nat.reduceBEq, Int.reduceToNat, Int.reduceLT, Int.reduceLE, Int.reduceEq, Int.reduceNeg, Int.reduceAdd, Int.reduceSub, Int.reduceMul, ↓reduceIte, Int.reduceBEq, Int.reduceBNe, hli]
      exact (ih (hns fun e => hy e.symm) []).castS rfl (by simp [upd, ins, subF, lookA])
  · intro j hp
    rw [List.take_length] at hp
    have : placeL l x = -1 := by unfold placeL; rw [if_neg hp]
    rw [this]
    simp -implicitDefEqProofs (maxSteps := 2000000) (disch := omega) only [go_sem, reduceCtorEq, Nat.reduceAdd, Nat.reduceSub, Nat.reduceMul, Nat.reduceLT, Nat.reduceLeDiff, Nat.reduceEqDiff, Nat.reduceBEq, Int.reduceToNat, Int.reduceLT, Int.reduceLE, Int.reduceEq, Int.reduceNeg, Int.reduceAdd, Int.reduceSub, Int.reduceMul, ↓reduceIte, Int.reduceBEq, Int.reduceBNe]
def sindex_s := spec2 tIs tI fun l x => if l.length ≤ 4294967296 then some (.int .i64 (placeL l x)) else none
theorem sindex_ok : ∀ xs v, sindex_s xs = some v → PureV Tryz.prog 99 xs v :=
  spec2_ok fun l x v h => by have h := someIf h; rw [← h.2]; exact sindex_p l x h.1
def fs30 (f : FuncId) (xs : List AV) : Option AV := if f = 99 then sindex_s xs else fs22 f xs
theorem fs30_ok : ∀ f xs v, fs30 f xs = some v → PureV Tryz.prog f xs v := by
  intro f xs v h
  unfold fs30 at h
  split at h
  · rename_i e; subst e; exact sindex_ok _ _ h
  exact fs22_ok _ _ _ h
attribute [go_sem] fs30 sindex_s
theorem scontains_p (l : List Int) (x : Int) (hl : l.length ≤ 4294967296) : PureV Tryz.prog 76 [.list .no 1 (l.map (.int .i64)), .int .i64 x] (.bool (l.contains x)) := by
  refine PureV.of_ev (E := Tryz.E 9 (fun _ => ([], [])) fs30) (Tryz.envOK 9 (fun _ => ([], [])) fs30 fs30_ok) (.bool) Tryz.kp76 Tryz.func76 rfl (by kernel_rfl) (by simp [Tryz.E]) (Callable.of Tryz.func76 (by kernel_rfl) (by kernel_rfl)) (by kernel_rfl) ?_
  intro σ
  have hd := place_nonneg (l := l) (x := x)
  rw [← hd]
  clear hd
  generalize hz : placeL l x = z
  by_cases h0 : 0 ≤ z
  · have e : decide (0 ≤ z) = true := by simpa using h0
    rw [e]
    simp -implicitDefEqProofs (maxSteps := 2000000) (disch := omega) only [go_sem, reduceCtorEq, Nat.reduceAdd, Nat.reduceSub, Nat.reduceMul, Nat.reduceLT, Nat.reduceLeDiff, Nat.reduceEqDiff, Nat.reduceBEq, Int.reduceToNat, Int.reduceLT, Int.reduceLE, Int.reduceEq, Int.reduceNeg, Int.reduceAdd, Int.reduceSub, Int.reduceMul, ↓reduceIte, Int.reduceBEq, Int.reduceBNe, hz]
  · have e : decide (0 ≤ z) = false := by simpa using h0
    rw [e]
    simp -implicitDefEqProofs (maxSteps := 2000000) (disch := omega) only [go_sem, reduceCtorEq, Nat.reduceAdd, Nat.reduceSub, Nat.reduceMul, Nat.reduceLT, Nat.reduceLeDiff, Nat.reduceEqDiff, Nat.reduceBEq, Int.reduceToNat, Int.reduceLT, Int.reduceLE, Int.reduceEq, Int.reduceNeg, Int.reduceAdd, Int.reduceSub, Int.reduceMul, ↓reduceIte, Int.reduceBEq, Int.reduceBNe, hz]
def scontains_s := spec2 tIs tI fun l x => if l.length ≤ 4294967296 then some (.bool (l.contains x)) else none
theorem scontains_ok : ∀ xs v, scontains_s xs = some v → PureV Tryz.prog 76 xs v :=
  spec2_ok fun l x v h => by have h := someIf h; rw [← h.2]; exact scontains_p l x h.1
def fs31 (f : FuncId) (xs : List AV) : Option AV := if f = 76 then scontains_s xs else fs30 f xs
theorem fs31_ok : ∀ f xs v, fs31 f xs = some v → PureV Tryz.prog f xs v := by
  intro f xs v h
  unfold fs31 at h
  split at h
  · rename_i e; subst e; exact scontains_ok _ _ h
  exact fs30_ok _ _ _ h
attribute [go_sem] fs31 scontains_s
theorem without_p (e : Ear) (l : List Int) (h1 : e.tones.length ≤ 4294967296) (h2 : e.rds.length ≤ 4294967296) (hl : l.length ≤ 4294967296) : PureV Tryz.prog 98 [e.av, .list .no 1 (l.map (.int .i64))] (without e l).av := by
  refine PureV.of_ev (E := Tryz.E 30 (fun _ => ([], [])) fs31) (Tryz.envOK 30 (fun _ => ([], [])) fs31 fs31_ok) (Ear.plain _) Tryz.kp98 Tryz.func98 rfl (by kernel_rfl) (by simp [Tryz.E]) (Callable.of Tryz.func98 (by kernel_rfl) (by kernel_rfl)) (by kernel_rfl) ?_
  intro σ
  obtain ⟨sl, ts, rs⟩ := e
  simp only at h1 h2
  simp only [Ear.av, without]
  simp -implicitDefEqProofs (maxSteps := 2000000) (disch := omega) only [go_sem, reduceCtorEq, Nat.reduceAdd, Nat.reduceSub, Nat.reduceMul, Nat.reduceLT, Nat.reduceLeDiff, Nat.reduceEqDiff, Nat.reduceBEq, Int.reduceToNat, Int.reduceLT, Int.reduceLE, Int.reduceEq, Int.reduceNeg, Int.reduceAdd, Int.reduceSub, Int.reduceMul, ↓reduceIte, Int.reduceBEq, Int.reduceBNe]
  refine ARun.ghostK (σ.length + 2) 2 6 (by rw [hget_at]; rfl) rfl ?_
  simp only [hset_at, List.set_cons_succ, List.set_cons_zero, List.append_assoc, List.cons_append, List.nil_append, List.length_append, List.length_cons, List.length_nil, Nat.zero_add, Nat.reduceAdd]
  refine ARun.forS (Tryz.envOK 30 (fun _ => ([], [])) fs31 fs31_ok) rs.length (fun _ => True) (fun i => [(13, .int .i64 i)]) (fun i j => σ ++ (.cells [.int .i64 sl, .list .no 2 (ts.map Rng.av), .list .no 6 (rs.map Rd.av)] :: .cells [.int .i64 0, .list .full 0 [], .list .full 0 []] :: .cells [.int .i64 sl, .list .no 2 (ts.map Rng.av), .list (.own (σ.length + 3)) 6 ((keepL l rs i).map Rd.av)] :: .tail (keepL l rs i).length 6 :: j)) [] (by kernel_rfl) (by simp [keepL_zero]) (by simp [upd, ins, subF, lookA]) trivial ?_ ?_
  · intro i j hi _ ih
    have hri : idx (rs.map Rd.av) (i : Int) = some rs[i].av := by rw [idx_nat hi]
    have hkl : (keepL l rs i).length ≤ i := keepL_len
    rw [keepL_succ hi] at ih
    generalize rs[i] = y at hri ih
    generalize keepL l rs i = B at hkl ih ⊢
    obtain ⟨k1, k2, k3, k4, ⟨k5, k6⟩⟩ := y
    simp only [Rd.av] at hri
    cases hb : l.contains (i : Int)
    · rw [hb, if_neg (by simp)] at ih
      simp -implicitDefEqProofs (maxSteps := 2000000) (disch := omega) only [go_sem, reduceCtorEq, Nat.reduceAdd, Nat.reduceSub, Nat.reduceMul, Nat.reduceLT, Nat.reduceLeDiff, Nat.reduceEqDiff, Nat.reduceBEq, Int.reduceToNat, Int.reduceLT, Int.reduceLE, Int.reduceEq, Int.reduceNeg, Int.reduceAdd, Int.reduceSub, Int.reduceMul, ↓reduceIte, Int.reduceBEq, Int.reduceBNe, hri, hb]
      exact (ih trivial (j ++ [.cells [.int .i64 k1, .int .i64 k2, .int .i64 k3, .int .i64 k4, .int .i64 k5, .int .i64 k6]])).castS (by simp [Rd.av]) (by simp [upd, ins, subF, lookA])
    · rw [hb, if_pos rfl, List.append_nil] at ih
      simp -implicitDefEqProofs (maxSteps := 2000000) (disch := omega) only [go_sem, reduceCtorEq, Nat.reduceAdd, Nat.reduceSub, Nat.reduceMul, Nat.reduceLT, Nat.reduceLeDiff, Nat.reduceEqDiff, Nat.reduceBEq, Int.reduceToNat, Int.reduceLT, Int.reduceLE, Int.reduceEq, Int.reduceNeg, Int.reduceAdd, Int.reduceSub, Int.reduceMul, ↓reduceIte, Int.reduceBEq, Int.reduceBNe, hri, hb]
      exact (ih trivial (j ++ [.cells [.int .i64 k1, .int .i64 k2, .int .i64 k3, .int .i64 k4, .int .i64 k5, .int .i64 k6]])).castS (by simp) (by simp [upd, ins, subF, lookA])
  · intro j _
    generalize keepL l rs rs.length = B
    simp -implicitDefEqProofs (maxSteps := 2000000) (disch := omega) only [go_sem, reduceCtorEq, Nat.reduceAdd, Nat.reduceSub, Nat.reduceMul, Nat.reduceLT, Nat.reduceLeDiff, Nat.reduceEqDiff, Nat.reduceBEq, Int.reduceToNat, Int.reduceLT, Int.reduceLE, Int.reduceEq, Int.reduceNeg, Int.reduceAdd, Int.reduceSub, Int.reduceMul, ↓reduceIte, Int.reduceBEq, Int.reduceBNe]
def without_s := spec2 tEar tIs fun e l => if e.tones.length ≤ 4294967296 ∧ e.rds.length ≤ 4294967296 ∧ l.length ≤ 4294967296 then some (without e l).av else none
theorem without_ok : ∀ xs v, without_s xs = some v → PureV Tryz.prog 98 xs v :=
  spec2_ok fun e l v h => by have h := someIf h; rw [← h.2]; exact without_p e l h.1.1 h.1.2.1 h.1.2.2
def fs32 (f : FuncId) (xs : List AV) : Option AV := if f = 98 then without_s xs else fs31 f xs
theorem fs32_ok : ∀ f xs v, fs32 f xs = some v → PureV Tryz.prog f xs v := by
  intro f xs v h
  unfold fs32 at h
  split at h
  · rename_i e; subst e; exact without_ok _ _ h
  exact fs31_ok _ _ _ h
attribute [go_sem] fs32 without_s
theorem cloneI_c (l : List Int) (tk : Tok) (hl : l.length ≤ 4294967296) (σ : List AObj) (Q : AV → List AObj → Prop) (h : Q (.list (.own σ.length) 1 (l.map (.int .i64))) (σ ++ [.tail l.length 1])) (h0 : l = [] → Q (.list .full 0 []) σ) :
    ACalls Tryz.prog 121 [.list tk 1 (l.map (.int .i64))] σ Q := by
  refine ACalls.of_ev (E := Tryz.E 8 (fun _ => ([], [])) fs0) (Tryz.envOK 8 (fun _ => ([], [])) fs0 fs0_ok) Tryz.kp121 Tryz.func121 rfl (by kernel_rfl) (by simp [Tryz.E]) (Callable.of Tryz.func121 (by kernel_rfl) (by kernel_rfl)) (by kernel_rfl) ?_
  simp -implicitDefEqProofs (maxSteps := 2000000) (disch := omega) only [go_sem, reduceCtorEq, Nat.reduceAdd, Nat.reduceSub, Nat.reduceMul, Nat.reduceLT, Nat.reduceLeDiff, Nat.reduceEqDiff, Nat.reduceBEq, Int.reduceToNat, Int.reduceLT, Int.reduceLE, Int.reduceEq, Int.reduceNeg, Int.reduceAdd, Int.reduceSub, Int.reduceMul, ↓reduceIte, Int.reduceBEq, Int.reduceBNe]
  refine ⟨h, fun e => ?_⟩
  simp at e
  exact h0 e
/-- The objects that the search of lists needs. -/
structure GrO (n many : Nat) (M : Nat → Prop) (r rm ry rn rg : Nat) (τ : List AObj) : Prop where
  m1 : hget τ rm = some (.cells [.int .i64 many])
  y1 : hget τ ry = some (.cells [.yield r])
  n1 : hget τ rn = some (.cells [.int .i64 n])
  g1 : hget τ rg = some (.cells [.fn (.func 120) [] [.ptr rm 0, .ptr ry 0, .ptr rn 0, .ptr rg 0]])
  m : ¬ M rm ∧ ¬ M ry ∧ ¬ M rn ∧ ¬ M rg
theorem GrO.same {n many : Nat} {M : Nat → Prop} {r rm ry rn rg : Nat} {τ τ' : List AObj} (h : GrO n many M r rm ry rn rg τ) (hs : Same M τ τ') : GrO n many M r rm ry rn rg τ' :=
  ⟨hs.get h.m1 h.m.1, hs.get h.y1 h.m.2.1, hs.get h.n1 h.m.2.2.1, hs.get h.g1 h.m.2.2.2, h.m⟩
set_option maxHeartbeats 1000000 in
theorem growl_c (n many : Nat) (hn : n ≤ 6) (hm : many ≤ 6) : ∀ (m : Nat) (b : List Int) (a : Nat), b.length + m = many → ∀ {r rm ry rn rg : Nat} {L : List AV} (T : Taker Tryz.prog r L) {τ : List AObj} (D Rest : List AV), GrO n many T.M r rm ry rn rg τ → T.C D τ → L = D ++ (comb n m a).map (fun l => isv (b ++ l)) ++ Rest →
    a ≤ 4294967296 → ACalls Tryz.prog 120 [.list .no 1 (b.map (.int .i64)), .int .i64 a, .ptr rm 0, .ptr ry 0, .ptr rn 0, .ptr rg 0] τ (GiveN T τ (D ++ (comb n m a).map (fun l => isv (b ++ l)))) := by
  intro m
  induction m with
  | zero =>
    intro b a hb r rm ry rn rg L T τ D Rest hT hC hL ha
    refine ACalls.of_ev (E := Tryz.E 33 Tryz.ord120 fs32) (Tryz.envOK 33 Tryz.ord120 fs32 fs32_ok) Tryz.kp120 Tryz.func120 rfl (by kernel_rfl) (by simp [Tryz.E]) (Callable.of Tryz.func120 (by kernel_rfl) (by kernel_rfl)) (by kernel_rfl) ?_
    have q1 := hT.m1
    have q3 := hT.y1
    have hbl : b.length = many := hb
    simp -implicitDefEqProofs (maxSteps := 2000000) (disch := omega) only [go_sem, reduceCtorEq, Nat.reduceAdd, Nat.reduceSub, Nat.reduceMul, Nat.reduceLT, Nat.reduceLeDiff, Nat.reduceEqDiff, Nat.reduceBEq, Int.reduceToNat, Int.reduceLT, Int.reduceLE, Int.reduceEq, Int.reduceNeg, Int.reduceAdd, Int.reduceSub, Int.reduceMul, ↓reduceIte, Int.reduceBEq, Int.reduceBNe, q1, q3]
    have hc : (comb n 0 a).map (fun l => isv (b ++ l)) = [isv b] := by simp [comb]
    rw [hc] at hL ⊢
    refine AYield.weaken (l' := [isv b]) ⟨⟨rfl, .inl rfl, .inl rfl⟩, trivial⟩ ?_
    refine (T.take (D := D) (R := Rest) (by rw [hL]; simp) hC).mono fun v τ' hv => ?_
    rcases hv with ⟨h1, ⟨rfl, h2⟩ | ⟨rfl, h2⟩⟩
    · simp -implicitDefEqProofs (maxSteps := 2000000) (disch := omega) only [go_sem, reduceCtorEq, Nat.reduceAdd, Nat.reduceSub, Nat.reduceMul, Nat.reduceLT, Nat.reduceLeDiff, Nat.reduceEqDiff, Nat.reduceBEq, Int.reduceToNat, Int.reduceLT, Int.reduceLE, Int.reduceEq, Int.reduceNeg, Int.reduceAdd, Int.reduceSub, Int.reduceMul, ↓reduceIte, Int.reduceBEq, Int.reduceBNe]
      exact ⟨h1, .inl ⟨rfl, h2⟩⟩
    · simp -implicitDefEqProofs (maxSteps := 2000000) (disch := omega) only [go_sem, reduceCtorEq, Nat.reduceAdd, Nat.reduceSub, Nat.reduceMul, Nat.reduceLT, Nat.reduceLeDiff, Nat.reduceEqDiff, Nat.reduceBEq, Int.reduceToNat, Int.reduceLT, Int.reduceLE, Int.reduceEq, Int.reduceNeg, Int.reduceAdd, Int.reduceSub, Int.reduceMul, ↓reduceIte, Int.reduceBEq, Int.reduceBNe]
      exact ⟨h1, .inr ⟨rfl, D, isv b, Rest, by rw [hL]; simp, h2⟩⟩
  | succ m ih =>
    intro b a hb r rm ry rn rg L T τ D Rest hT hC hL ha
    refine ACalls.of_ev (E := Tryz.E 33 Tryz.ord120 fs32) (Tryz.envOK 33 Tryz.ord120 fs32 fs32_ok) Tryz.kp120 Tryz.func120 rfl (by kernel_rfl) (by simp [Tryz.E]) (Callable.of Tryz.func120 (by kernel_rfl) (by kernel_rfl)) (by kernel_rfl) ?_
    have q1 := hT.m1
    have hbl : b.length < many := by omega
    rw [comb_succ] at hL ⊢
    simp -implicitDefEqProofs (maxSteps := 2000000) (disch := omega) only [go_sem, reduceCtorEq, Nat.reduceAdd, Nat.reduceSub, Nat.reduceMul, Nat.reduceLT, Nat.reduceLeDiff, Nat.reduceEqDiff, Nat.reduceBEq, Int.reduceToNat, Int.reduceLT, Int.reduceLE, Int.reduceEq, Int.reduceNeg, Int.reduceAdd, Int.reduceSub, Int.reduceMul, ↓reduceIte, Int.reduceBEq, Int.reduceBNe, q1]
    refine ARun.forJ (Tryz.envOK 33 Tryz.ord120 fs32 fs32_ok) (n - a) (fun i σ' => Same T.M τ σ' ∧ T.C (D ++ ((List.range i).flatMap (combK n m a)).map (fun l => isv (b ++ l))) σ') (fun i => [(9, .int .i64 ((a : Int) + i))]) (by kernel_rfl) (by simp [upd, ins, subF, lookA]) ?_ ?_ ?_
    · exact ⟨Same.refl, by simpa using hC⟩
    · rintro i σ' hi ⟨h5, h6⟩ ih'
      have hT' := hT.same h5
      have p1 := hT'.n1
      have p2 := hT'.g1
      have p3 : ∀ l, hget (σ' ++ l) rg = some (.cells [.fn (.func 120) [] [.ptr rm 0, .ptr ry 0, .ptr rn 0, .ptr rg 0]]) := fun l => by rw [hget_app (hget_lt p2)]; exact p2
      have hin : (a : Int) + i < n := by omega
      obtain ⟨X, hX⟩ := flatMap_part (combK n m a) hi
      have hK : (combK n m a i).map (fun l => isv (b ++ l)) = (comb n m (a + i + 1)).map fun l => isv ((b ++ [(a : Int) + i]) ++ l) := by
        unfold combK
        rw [List.map_map]
        congr 1; funext l
        simp only [Function.comp, List.append_assoc, List.cons_append, List.nil_append]
        rw [show ((a + i : Nat) : Int) = (a : Int) + i by omega]
      have hrec : ∀ Y, ACalls Tryz.prog 120 [.list .no 1 ((b ++ [(a : Int) + i]).map (.int .i64)), .int .i64 ((a : Int) + i + 1), .ptr rm 0, .ptr ry 0, .ptr rn 0, .ptr rg 0] (σ' ++ Y) (GiveN T (σ' ++ Y) (D ++ ((List.range (i + 1)).flatMap (combK n m a)).map (fun l => isv (b ++ l)))) := fun Y => by
        have h := ih (b ++ [(a : Int) + i]) (a + i + 1) (by simp; omega) T (τ := σ' ++ Y) (D ++ ((List.range i).flatMap (combK n m a)).map (fun l => isv (b ++ l))) (X.map (fun l => isv (b ++ l)) ++ Rest) (hT'.same Same.app) (T.keep h6 (SameOn.app fun q hq => T.lt h6 hq)) (by rw [hL, hX, List.map_append, List.map_append, hK]; simp) (by omega)
        rw [show ((a + i + 1 : Nat) : Int) = (a : Int) + i + 1 by omega, List.append_assoc D, ← hK, ← List.map_append, ← flatMap_succ] at h
        exact h
      have hjoin : ∀ Y v τ', GiveN T (σ' ++ Y) (D ++ ((List.range (i + 1)).flatMap (combK n m a)).map (fun l => isv (b ++ l))) v τ' → GiveN T τ (D ++ ((List.range (i + 1)).flatMap (combK n m a)).map (fun l => isv (b ++ l))) v τ' := fun Y v τ' h => ⟨(h5.trans Same.app).trans h.1, h.2⟩
      have hbl2 : b.length ≤ 6 := by omega
      clear hK hX hT' ih
      simp -implicitDefEqProofs (maxSteps := 2000000) (disch := omega) only [go_sem, reduceCtorEq, Nat.reduceAdd, Nat.reduceSub, Nat.reduceMul, Nat.reduceLT, Nat.reduceLeDiff, Nat.reduceEqDiff, Nat.reduceBEq, Int.reduceToNat, Int.reduceLT, Int.reduceLE, Int.reduceEq, Int.reduceNeg, Int.reduceAdd, Int.reduceSub, Int.reduceMul, ↓reduceIte, Int.reduceBEq, Int.reduceBNe, p1, p2]
      refine cloneI_c b .no (by omega) _ _ ?_ ?_
      · simp -implicitDefEqProofs (maxSteps := 2000000) (disch := omega) only [go_sem, reduceCtorEq, Nat.reduceAdd, Nat.reduceSub, Nat.reduceMul, Nat.reduceLT, Nat.reduceLeDiff, Nat.reduceEqDiff, Nat.reduceBEq, Int.reduceToNat, Int.reduceLT, Int.reduceLE, Int.reduceEq, Int.reduceNeg, Int.reduceAdd, Int.reduceSub, Int.reduceMul, ↓reduceIte, Int.reduceBEq, Int.reduceBNe, p1, p2, p3]
        refine ACalls.weaken (l' := [.list .no 1 ((b ++ [(a : Int) + i]).map (.int .i64)), .int .i64 ((a : Int) + i + 1), .ptr rm 0, .ptr ry 0, .ptr rn 0, .ptr rg 0]) (by simp [wkL, wk, wk1, wk0]) ((hrec _).mono fun v τ' hv => ?_)
        obtain ⟨g0, ⟨rfl, g2⟩ | ⟨rfl, g2⟩⟩ := hjoin _ _ _ hv
        · simp -implicitDefEqProofs (maxSteps := 2000000) (disch := omega) only [go_sem, reduceCtorEq, Nat.reduceAdd, Nat.reduceSub, Nat.reduceMul, Nat.reduceLT, Nat.reduceLeDiff, Nat.reduceEqDiff, Nat.reduceBEq, Int.reduceToNat, Int.reduceLT, Int.reduceLE, Int.reduceEq, Int.reduceNeg, Int.reduceAdd, Int.reduceSub, Int.reduceMul, ↓reduceIte, Int.reduceBEq, Int.reduceBNe]
          exact (ih' τ' ⟨g0, g2⟩).castS rfl (by simp [upd, ins, subF, lookA, Int.add_assoc])
        · simp -implicitDefEqProofs (maxSteps := 2000000) (disch := omega) only [go_sem, reduceCtorEq, Nat.reduceAdd, Nat.reduceSub, Nat.reduceMul, Nat.reduceLT, Nat.reduceLeDiff, Nat.reduceEqDiff, Nat.reduceBEq, Int.reduceToNat, Int.reduceLT, Int.reduceLE, Int.reduceEq, Int.reduceNeg, Int.reduceAdd, Int.reduceSub, Int.reduceMul, ↓reduceIte, Int.reduceBEq, Int.reduceBNe]
          exact ⟨g0, .inr ⟨rfl, g2⟩⟩
      · intro h0
        simp -implicitDefEqProofs (maxSteps := 2000000) (disch := omega) only [go_sem, reduceCtorEq, Nat.reduceAdd, Nat.reduceSub, Nat.reduceMul, Nat.reduceLT, Nat.reduceLeDiff, Nat.reduceEqDiff, Nat.reduceBEq, Int.reduceToNat, Int.reduceLT, Int.reduceLE, Int.reduceEq, Int.reduceNeg, Int.reduceAdd, Int.reduceSub, Int.reduceMul, ↓reduceIte, Int.reduceBEq, Int.reduceBNe, p1, p2, p3]
        have hb1 : [AV.int .i64 ((a : Int) + i)] = (b ++ [(a : Int) + i]).map (.int .i64) := by rw [h0]; rfl
        rw [hb1]
        refine ACalls.weaken (l' := [.list .no 1 ((b ++ [(a : Int) + i]).map (.int .i64)), .int .i64 ((a : Int) + i + 1), .ptr rm 0, .ptr ry 0, .ptr rn 0, .ptr rg 0]) (by simp [wkL, wk, wk1, wk0]) ((hrec _).mono fun v τ' hv => ?_)
        obtain ⟨g0, ⟨rfl, g2⟩ | ⟨rfl, g2⟩⟩ := hjoin _ _ _ hv
        · simp -implicitDefEqProofs (maxSteps := 2000000) (disch := omega) only [go_sem, reduceCtorEq, Nat.reduceAdd, Nat.reduceSub, Nat.reduceMul, Nat.reduceLT, Nat.reduceLeDiff, Nat.reduceEqDiff, Nat.reduceBEq, Int.reduceToNat, Int.reduceLT, Int.reduceLE, Int.reduceEq, Int.reduceNeg, Int.reduceAdd, Int.reduceSub, Int.reduceMul, ↓reduceIte, Int.reduceBEq, Int.reduceBNe]
          exact (ih' τ' ⟨g0, g2⟩).castS rfl (by simp [upd, ins, subF, lookA, Int.add_assoc])
        · simp -implicitDefEqProofs (maxSteps := 2000000) (disch := omega) only [go_sem, reduceCtorEq, Nat.reduceAdd, Nat.reduceSub, Nat.reduceMul, Nat.reduceLT, Nat.reduceLeDiff, Nat.reduceEqDiff, Nat.reduceBEq, Int.reduceToNat, Int.reduceLT, Int.reduceLE, Int.reduceEq, Int.reduceNeg, Int.reduceAdd, Int.reduceSub, Int.reduceMul, ↓reduceIte, Int.reduceBEq, Int.reduceBNe]
          exact ⟨g0, .inr ⟨rfl, g2⟩⟩
    · intro σ' h
      obtain ⟨h5, h6⟩ := h
      have hT' := hT.same h5
      have p1 := hT'.n1
      have hin : ¬ ((a : Int) + (n - a : Nat) < n) := by omega
      simp -implicitDefEqProofs (maxSteps := 2000000) (disch := omega) only [go_sem, reduceCtorEq, Nat.reduceAdd, Nat.reduceSub, Nat.reduceMul, Nat.reduceLT, Nat.reduceLeDiff, Nat.reduceEqDiff, Nat.reduceBEq, Int.reduceToNat, Int.reduceLT, Int.reduceLE, Int.reduceEq, Int.reduceNeg, Int.reduceAdd, Int.reduceSub, Int.reduceMul, ↓reduceIte, Int.reduceBEq, Int.reduceBNe, p1]
      exact ⟨h5, .inl ⟨rfl, h6⟩⟩
end Go.Proofs
set_option linter.unusedSimpArgs false
set_option linter.unusedVariables false
set_option maxRecDepth 100000
namespace Go.Proofs
open Go Go.Mu

theorem contains_take_succ {l : List Int} {k : Nat} {x : Int} (h : k < l.length) : (l.take (k + 1)).contains x = ((l.take k).contains x || decide (l[k] = x)) := by
  rw [List.take_succ_eq_append_getElem h, Bool.eq_iff_iff]
  simp only [List.contains_iff_mem, List.mem_append, List.mem_singleton, Bool.or_eq_true, decide_eq_true_eq]
  constructor
  · rintro (h | h)
    · exact .inl h
    · exact .inr h.symm
  · rintro (h | h)
    · exact .inl h
    · exact .inr h.symm
def rwithout_s := spec2 tEar tIs fun e l => if e.tones.length ≤ 4294967296 ∧ e.rds.length ≤ 4294967296 ∧ l.length ≤ 4294967296 then some (without e l).av else none
end Go.Proofs
set_option linter.unusedSimpArgs false
set_option linter.unusedVariables false
set_option maxRecDepth 100000
namespace Go.Proofs
open Go Go.Mu

def rlists_s := spec3 tI tI tI fun a n m => if (0 ≤ a ∧ a ≤ 7) ∧ (0 ≤ n ∧ n ≤ 6) ∧ (0 ≤ m ∧ m ≤ 6) then some (tss (comb n.toNat m.toNat a.toNat)) else none
def fs130 (f : FuncId) (xs : List AV) : Option AV :=  fs108 f xs
theorem fs130_ok : ∀ f xs v, fs130 f xs = some v → PureV Tryz.prog f xs v := by
  intro f xs v h
  unfold fs130 at h
  exact fs108_ok _ _ _ h
attribute [go_sem] fs130
theorem mayL_rall {e : Ear} : mayL e = !(rallL e []).isEmpty := by
  rw [rallL_nil]
  unfold mayL truthsR
  simp
def rfewest_s := spec1 tEar fun e => if ck e = 0 then some (tss (fewL e)) else none
def fs131 (f : FuncId) (xs : List AV) : Option AV :=  fs130 f xs
theorem fs131_ok : ∀ f xs v, fs131 f xs = some v → PureV Tryz.prog f xs v := by
  intro f xs v h
  unfold fs131 at h
  exact fs130_ok _ _ _ h
attribute [go_sem] fs131
end Go.Proofs
set_option linter.unusedSimpArgs false
set_option linter.unusedVariables false
set_option maxRecDepth 100000
namespace Go.Proofs
open Go Go.Mu

theorem lists1_c (n many : Nat) (hn : n ≤ 6) (hmm : many ≤ 6) {r rm rn : Nat} {L : List AV} (T : Taker Tryz.prog r L) {τ : List AObj} (h1 : hget τ rm = some (.cells [.int .i64 many])) (h2 : hget τ rn = some (.cells [.int .i64 n])) (hm : ¬ T.M rm ∧ ¬ T.M rn) (hC : T.C [] τ) (hL : L = (comb n many 0).map isv) :
    ACalls Tryz.prog 119 [.yield r, .ptr rm 0, .ptr rn 0] τ fun _ τ' => Same T.M τ τ' ∧ (T.C L τ' ∨ ∃ D v R, L = D ++ v :: R ∧ T.St (D ++ [v]) τ') := by
  subst hL
  refine ACalls.of_ev (E := Tryz.E 8 (fun _ => ([], [])) fs32) (Tryz.envOK 8 (fun _ => ([], [])) fs32 fs32_ok) Tryz.kp119 Tryz.func119 rfl (by kernel_rfl) (by simp [Tryz.E]) (Callable.of Tryz.func119 (by kernel_rfl) (by kernel_rfl)) (by kernel_rfl) ?_
  simp -implicitDefEqProofs (maxSteps := 2000000) (disch := omega) only [go_sem, reduceCtorEq, Nat.reduceAdd, Nat.reduceSub, Nat.reduceMul, Nat.reduceLT, Nat.reduceLeDiff, Nat.reduceEqDiff, Nat.reduceBEq, Int.reduceToNat, Int.reduceLT, Int.reduceLE, Int.reduceEq, Int.reduceNeg, Int.reduceAdd, Int.reduceSub, Int.reduceMul, ↓reduceIte, Int.reduceBEq, Int.reduceBNe]
  have hlt : ∀ q, T.M q → q < τ.length := fun q hq => T.lt hC hq
  have hb1 := hget_lt h1
  have hb2 := hget_lt h2
  refine ACalls.weaken (l' := [.list .no 1 (([] : List Int).map (.int .i64)), .int .i64 ((0 : Nat) : Int), .ptr rm 0, .ptr τ.length 0, .ptr rn 0, .ptr (τ.length + 1) 0]) ⟨⟨rfl, .inr rfl, .inl rfl⟩, rfl, rfl, rfl, rfl, rfl, trivial⟩ ?_
  refine (growl_c n many hn hmm many [] 0 (by simp) T (r := r) (rm := rm) (ry := τ.length) (rn := rn) (rg := τ.length + 1) [] [] ⟨by rw [hget_app hb1]; exact h1, hget_at0, by rw [hget_app hb2]; exact h2, hget_at, hm.1, fun h => by have := hlt _ h; omega, hm.2, fun h => by have := hlt _ h; omega⟩ (T.keep hC (SameOn.app hlt)) (by simp) (by omega)).mono fun v τ' hv => ?_
  simp -implicitDefEqProofs (maxSteps := 2000000) (disch := omega) only [go_sem, reduceCtorEq, Nat.reduceAdd, Nat.reduceSub, Nat.reduceMul, Nat.reduceLT, Nat.reduceLeDiff, Nat.reduceEqDiff, Nat.reduceBEq, Int.reduceToNat, Int.reduceLT, Int.reduceLE, Int.reduceEq, Int.reduceNeg, Int.reduceAdd, Int.reduceSub, Int.reduceMul, ↓reduceIte, Int.reduceBEq, Int.reduceBNe]
  refine ⟨Same.app.trans hv.1, ?_⟩
  rcases hv with ⟨_, ⟨_, g⟩ | ⟨_, D, v', R, g1, g2⟩⟩
  · left; simpa using g
  · right; exact ⟨D, v', R, g1, g2⟩
theorem lists_f (n many : Nat) (hn : n ≤ 6) (hm : many ≤ 6) (σ : List AObj) (Q : AV → List AObj → Prop) (h : ∀ junk, 2 ≤ junk.length → IterF Tryz.prog 119 [] [.ptr (σ.length + 1) 0, .ptr σ.length 0] (fun k => k = σ.length ∨ k = σ.length + 1) (σ ++ junk) ((comb n many 0).map isv) → Q (.fn (.func 119) [] [.ptr (σ.length + 1) 0, .ptr σ.length 0]) (σ ++ junk)) :
    ACalls Tryz.prog 96 [.int .i64 n, .int .i64 many] σ Q := by
  refine ACalls.of_ev (E := Tryz.E 6 (fun _ => ([], [])) fs32) (Tryz.envOK 6 (fun _ => ([], [])) fs32 fs32_ok) Tryz.kp96 Tryz.func96 rfl (by kernel_rfl) (by simp [Tryz.E]) (Callable.of Tryz.func96 (by kernel_rfl) (by kernel_rfl)) (by kernel_rfl) ?_
  simp -implicitDefEqProofs (maxSteps := 2000000) (disch := omega) only [go_sem, reduceCtorEq, Nat.reduceAdd, Nat.reduceSub, Nat.reduceMul, Nat.reduceLT, Nat.reduceLeDiff, Nat.reduceEqDiff, Nat.reduceBEq, Int.reduceToNat, Int.reduceLT, Int.reduceLE, Int.reduceEq, Int.reduceNeg, Int.reduceAdd, Int.reduceSub, Int.reduceMul, ↓reduceIte, Int.reduceBEq, Int.reduceBNe]
  refine h _ (by simp) fun r T σ' hk hC => ?_
  have := lists1_c n many hn hm T (rm := σ.length + 1) (rn := σ.length) (τ := σ') (by rw [(hk _ (.inr rfl)).1]; simp [hget_at]) (by rw [(hk _ (.inl rfl)).1]; simp [hget_at0]) ⟨(hk _ (.inr rfl)).2, (hk _ (.inl rfl)).2⟩ hC rfl
  simpa using this
theorem map_split {α : Type} {f : α → AV} {l : List α} {k : Nat} {v : AV} {R : List AV} (h : l.map f = (l.take k).map f ++ v :: R) : ∃ hk : k < l.length, v = f l[k] := by
  have hk : k < l.length := by
    have := congrArg List.length h
    simp only [List.length_map, List.length_append, List.length_cons, List.length_take] at this
    omega
  refine ⟨hk, ?_⟩
  have h2 : (l.map f)[k]? = ((l.take k).map f ++ v :: R)[k]? := by rw [h]
  rw [List.getElem?_append_right (by simp; omega)] at h2
  simp only [List.length_map, List.length_take, Nat.min_eq_left (Nat.le_of_lt hk), Nat.sub_self, List.getElem?_cons_zero, List.getElem?_map, List.getElem?_eq_getElem hk, Option.map_some] at h2
  exact (Option.some.inj h2).symm
/-- What is met of the lists that are handed out. -/
def FwC (p : Nat) (cs : List AV) (C : List (List Int)) (f : List Int → Bool) (D : List AV) (τ : List AObj) : Prop :=
  ∃ k, D = (C.take k).map isv ∧ hget τ p = some (.cells cs) ∧ hget τ (p + 1) = some (.cells [.list (.own (p + 2)) 1 (((C.take k).filter f).map isv)]) ∧ hget τ (p + 2) = some (.tail ((C.take k).filter f).length 1)
theorem fewest_p (e : Ear) (hc : ck e = 0) : PureV Tryz.prog 75 [e.av] (tss (fewL e)) := by
  refine PureV.of_ev (E := Tryz.E 32 (fun _ => ([], [])) fs32) (Tryz.envOK 32 (fun _ => ([], [])) fs32 fs32_ok) (tss_plain _) Tryz.kp75 Tryz.func75 rfl (by kernel_rfl) (by simp [Tryz.E]) (Callable.of Tryz.func75 (by kernel_rfl) (by kernel_rfl)) (by kernel_rfl) ?_
  intro σ
  obtain ⟨kk, hk1, hk2, hk3⟩ := few_ex hc
  rw [fewL_eq hk2 hk1 hk3]
  have hrn := ck_rn hc
  have he := okE_of_ck hc
  have hlen := he.len
  obtain ⟨sl, ts, rs⟩ := e
  simp only at hk1 hrn hlen
  simp only [Ear.av]
  simp -implicitDefEqProofs (maxSteps := 2000000) (disch := omega) only [go_sem, reduceCtorEq, Nat.reduceAdd, Nat.reduceSub, Nat.reduceMul, Nat.reduceLT, Nat.reduceLeDiff, Nat.reduceEqDiff, Nat.reduceBEq, Int.reduceToNat, Int.reduceLT, Int.reduceLE, Int.reduceEq, Int.reduceNeg, Int.reduceAdd, Int.reduceSub, Int.reduceMul, ↓reduceIte, Int.reduceBEq, Int.reduceBNe]
  refine ARun.ghostC (σ.length + 1) 1 (sz0 := 0) (by simp [hget_at]) ?_
  simp only [hset_at, List.set_cons_succ, List.set_cons_zero, List.append_assoc, List.cons_append, List.nil_append, List.length_append, List.length_cons, List.length_nil, Nat.zero_add, Nat.reduceAdd]
  refine ARun.forJ (Tryz.envOK 32 (fun _ => ([], [])) fs32 fs32_ok) (rs.length + 1) (fun i σ' => i ≤ kk ∧ σ.length + 3 ≤ σ'.length ∧ (∀ q, q < σ.length → hget σ' q = hget σ q) ∧ hget σ' σ.length = some (.cells [.int .i64 sl, .list .no 2 (ts.map Rng.av), .list .no 6 (rs.map Rd.av)]) ∧ hget σ' (σ.length + 1) = some (.cells [.list (.own (σ.length + 2)) 1 []]) ∧ hget σ' (σ.length + 2) = some (.tail 0 1)) (fun i => [(10, .int .i64 i)]) (by kernel_rfl) (by simp [upd, ins, subF, lookA]) ?_ ?_ ?_
  · exact ⟨by omega, by simp, fun q hq => hget_app hq, hget_at0, by simp [hget_at], by simp [hget_at]⟩
  · rintro i σ1 hi ⟨g0, g1, g2, g3, g4, g5⟩ ih
    simp -implicitDefEqProofs (maxSteps := 2000000) (disch := omega) only [go_sem, reduceCtorEq, Nat.reduceAdd, Nat.reduceSub, Nat.reduceMul, Nat.reduceLT, Nat.reduceLeDiff, Nat.reduceEqDiff, Nat.reduceBEq, Int.reduceToNat, Int.reduceLT, Int.reduceLE, Int.reduceEq, Int.reduceNeg, Int.reduceAdd, Int.reduceSub, Int.reduceMul, ↓reduceIte, Int.reduceBEq, Int.reduceBNe, g3]
    refine lists_f rs.length i (by omega) (by omega) _ _ fun junk hj hI => ?_
    obtain ⟨f, hf⟩ : ∃ f : List Int → Bool, f = fun l => mayL (without ⟨sl, ts, rs⟩ l) := ⟨_, rfl⟩
    have hfa : fewAt ⟨sl, ts, rs⟩ i = (comb rs.length i 0).filter f := by rw [hf]; rfl
    have hcl : (comb rs.length i 0).length ≤ 117649 := comb_len6 (by omega) (by omega)
    have hcm : ∀ l ∈ comb rs.length i 0, l.length ≤ 6 := fun l hl => by rw [(comb_mem hl).1]; omega
    generalize comb rs.length i 0 = C at hI hfa hcl hcm ⊢
    simp -implicitDefEqProofs (maxSteps := 2000000) (disch := omega) only [go_sem, reduceCtorEq, Nat.reduceAdd, Nat.reduceSub, Nat.reduceMul, Nat.reduceLT, Nat.reduceLeDiff, Nat.reduceEqDiff, Nat.reduceBEq, Int.reduceToNat, Int.reduceLT, Int.reduceLE, Int.reduceEq, Int.reduceNeg, Int.reduceAdd, Int.reduceSub, Int.reduceMul, ↓reduceIte, Int.reduceBEq, Int.reduceBNe]
    refine ARun.rangeIterF (g := 119) (p := []) (L := C.map isv) (by simp [aeval, Fr.get, lookA, Tryz.kp75]) hI (fun k hk => ⟨rfl, by simp; omega⟩) ⟨18, rfl, by simp [Tryz.EN]⟩
      (fun k => k = σ.length ∨ k = σ.length + 1 ∨ k = σ.length + 2) (fun k hk => ⟨by omega, by simp; omega⟩)
      (FwC σ.length [.int .i64 sl, .list .no 2 (ts.map Rng.av), .list .no 6 (rs.map Rd.av)] C f) (fun _ _ => False)
      ⟨0, rfl, by rw [hget_app (by omega)]; exact g3, by rw [hget_app (by omega)]; exact g4, by rw [hget_app (by omega)]; exact g5⟩
      (fun {D τ τ'} hc hk => by obtain ⟨k, c1, c2, c3, c4⟩ := hc; exact ⟨k, c1, by rw [hk _ (.inl rfl)]; exact c2, by rw [hk _ (.inr (.inl rfl))]; exact c3, by rw [hk _ (.inr (.inr rfl))]; exact c4⟩) (fun {j τ τ'} hc _ => hc) ?_ ?_ (fun τ j _ _ hc => hc.elim)
    · rintro D v R fn τ hD ⟨k, rfl, c1, c2, c3⟩ hlt hrec
      obtain ⟨hk, rfl⟩ := map_split hD
      have hTl := hcm _ (List.getElem_mem hk)
      have hst : (C.take (k + 1)).filter f = (C.take k).filter f ++ (if f C[k] = true then [C[k]] else []) := by
        rw [List.take_succ_eq_append_getElem hk, List.filter_append]
        congr 1
        simp only [List.filter_cons, List.filter_nil]
      have hBl : ((C.take k).filter f).length ≤ 117649 := Nat.le_trans (List.length_filter_le _ _) (by rw [List.length_take]; omega)
      have hmp : (C.take k).map isv ++ [isv C[k]] = (C.take (k + 1)).map isv := by rw [List.take_succ_eq_append_getElem hk, List.map_append]; rfl
      have hfk : f C[k] = mayL (without ⟨sl, ts, rs⟩ C[k]) := by rw [hf]
      have hckw := ck_without (l := C[k]) hc
      rw [hmp]
      refine ev_sound (Tryz.envOK 32 (fun _ => ([], [])) fs32 fs32_ok) (n := 1000) (by kernel_rfl) ?_
      simp -implicitDefEqProofs (maxSteps := 2000000) (disch := omega) only [go_sem, reduceCtorEq, Nat.reduceAdd, Nat.reduceSub, Nat.reduceMul, Nat.reduceLT, Nat.reduceLeDiff, Nat.reduceEqDiff, Nat.reduceBEq, Int.reduceToNat, Int.reduceLT, Int.reduceLE, Int.reduceEq, Int.reduceNeg, Int.reduceAdd, Int.reduceSub, Int.reduceMul, ↓reduceIte, Int.reduceBEq, Int.reduceBNe, frIn]
      refine ARun.beginRound' (by simpa using hrec) fun τ2 hl2 hs2 hr2 => ?_
      simp only [List.length_append] at hlt hr2 hs2 ⊢
      have k1 := (hs2 _ (by omega)).trans c1
      have k2 := (hs2 _ (by omega)).trans c2
      have k3 := (hs2 _ (by omega)).trans c3
      obtain ⟨⟨s', t', r'⟩, hW⟩ : ∃ W, without ⟨sl, ts, rs⟩ C[k] = W := ⟨_, rfl⟩
      rw [hW] at hfk hckw
      generalize ((C.take k).filter f) = B at k2 k3 hBl hst
      generalize C[k] = T at hW hTl hfk hst
      refine ev_sound (Tryz.envOK 32 (fun _ => ([], [])) fs32 fs32_ok) (n := 1000) (by kernel_rfl) ?_
      simp only [isv]
      cases hb : f T
      · rw [hb] at hfk hst
        rw [if_neg (by simp), List.append_nil] at hst
        simp -implicitDefEqProofs (maxSteps := 2000000) (disch := omega) only [go_sem, reduceCtorEq, Nat.reduceAdd, Nat.reduceSub, Nat.reduceMul, Nat.reduceLT, Nat.reduceLeDiff, Nat.reduceEqDiff, Nat.reduceBEq, Int.reduceToNat, Int.reduceLT, Int.reduceLE, Int.reduceEq, Int.reduceNeg, Int.reduceAdd, Int.reduceSub, Int.reduceMul, ↓reduceIte, Int.reduceBEq, Int.reduceBNe, k1, k2, k3, hW, Ear.av, hckw, ← hfk]
        exact ⟨⟨by omega, fun q hq hm => hs2 q (by omega)⟩, ⟨_, hr2⟩, .inl ⟨k + 1, rfl, k1, by rw [hst]; exact k2, by rw [hst]; exact k3⟩⟩
      · rw [hb] at hfk hst
        rw [if_pos rfl] at hst
        have k4 : ∀ o, hget (hset τ2 (σ.length + 2) o) (σ.length + 1) = some (.cells [.list (.own (σ.length + 2)) 1 (B.map isv)]) := fun o => by rw [hget_ne (by omega)]; exact k2
        simp -implicitDefEqProofs (maxSteps := 2000000) (disch := omega) only [go_sem, reduceCtorEq, Nat.reduceAdd, Nat.reduceSub, Nat.reduceMul, Nat.reduceLT, Nat.reduceLeDiff, Nat.reduceEqDiff, Nat.reduceBEq, Int.reduceToNat, Int.reduceLT, Int.reduceLE, Int.reduceEq, Int.reduceNeg, Int.reduceAdd, Int.reduceSub, Int.reduceMul, ↓reduceIte, Int.reduceBEq, Int.reduceBNe, k1, k2, k3, k4, hW, Ear.av, hckw, ← hfk]
        refine ⟨⟨by rw [length_hset, length_hset]; omega, fun q hq hm => by rw [hget_ne (by omega), hget_ne (by omega), hs2 q (by omega)]⟩, ⟨none, by rw [hget_ne (by omega), hget_ne (by omega)]; exact hr2⟩, .inl ⟨k + 1, rfl, by rw [hget_ne (by omega), hget_ne (by omega)]; exact k1, ?_, ?_⟩⟩
        · rw [hst, hget_set (k4 _) _]; simp [isv]
        · rw [hst, hget_ne (by omega), hget_set k3 _]; simp
    · intro τ hlt hold hC
      obtain ⟨k, hk, c1, c2, c3⟩ := hC
      have hka : C.take k = C := by
        have := congrArg List.length hk
        simp only [List.length_map] at this
        rw [List.length_take] at this
        exact List.take_of_length_le (by omega)
      rw [hka, ← hfa] at c2 c3
      have hBl : (fewAt ⟨sl, ts, rs⟩ i).length ≤ 117649 := by rw [hfa]; exact Nat.le_trans (List.length_filter_le _ _) hcl
      refine ev_sound (Tryz.envOK 32 (fun _ => ([], [])) fs32 fs32_ok) (n := 1000) (by kernel_rfl) ?_
      simp only [List.length_append] at hlt hold
      by_cases hn : fewAt ⟨sl, ts, rs⟩ i = []
      · rw [hn] at c2 c3
        simp -implicitDefEqProofs (maxSteps := 2000000) (disch := omega) only [go_sem, reduceCtorEq, Nat.reduceAdd, Nat.reduceSub, Nat.reduceMul, Nat.reduceLT, Nat.reduceLeDiff, Nat.reduceEqDiff, Nat.reduceBEq, Int.reduceToNat, Int.reduceLT, Int.reduceLE, Int.reduceEq, Int.reduceNeg, Int.reduceAdd, Int.reduceSub, Int.reduceMul, ↓reduceIte, Int.reduceBEq, Int.reduceBNe, c2, List.map_nil]
        have hik : i < kk := by
          rcases Nat.lt_or_ge i kk with h | h
          · exact h
          · have : i = kk := by omega
            subst this; exact absurd hn hk3
        refine (ih τ ⟨by omega, by omega, fun q hq => ?_, c1, c2, c3⟩).castS rfl (by simp [upd, ins, subF, lookA])
        rw [hold q (by omega) (by omega), hget_app (by omega)]; exact g2 q hq
      · have hik : i = kk := by
          rcases Nat.lt_or_ge i kk with h | h
          · exact absurd (hk2 i h) hn
          · omega
        subst hik
        have hpos : 0 < (fewAt ⟨sl, ts, rs⟩ i).length := List.length_pos_iff.2 hn
        generalize fewAt ⟨sl, ts, rs⟩ i = B at c2 c3 hBl hpos ⊢
        simp -implicitDefEqProofs (maxSteps := 2000000) (disch := omega) only [go_sem, reduceCtorEq, Nat.reduceAdd, Nat.reduceSub, Nat.reduceMul, Nat.reduceLT, Nat.reduceLeDiff, Nat.reduceEqDiff, Nat.reduceBEq, Int.reduceToNat, Int.reduceLT, Int.reduceLE, Int.reduceEq, Int.reduceNeg, Int.reduceAdd, Int.reduceSub, Int.reduceMul, ↓reduceIte, Int.reduceBEq, Int.reduceBNe, c2]
        exact gives_same (by omega) (fun q hq => by rw [hold q (by omega) (by omega), hget_app (by omega)]; exact g2 q hq) ⟨rfl, .inl rfl, .inl rfl⟩
  · intro σ1 hg
    exact absurd hg.1 (by omega)
end Go.Proofs
set_option linter.unusedSimpArgs false
set_option linter.unusedVariables false
set_option maxRecDepth 100000
namespace Go.Proofs
open Go Go.Mu

def fewest_s := spec1 tEar fun e => if ck e = 0 then some (tss (fewL e)) else none
theorem fewest_ok : ∀ xs v, fewest_s xs = some v → PureV Tryz.prog 75 xs v :=
  spec1_ok fun e v h => by have h := someIf h; rw [← h.2]; exact fewest_p e h.1
def fs33 (f : FuncId) (xs : List AV) : Option AV := if f = 75 then fewest_s xs else fs32 f xs
theorem fs33_ok : ∀ f xs v, fs33 f xs = some v → PureV Tryz.prog f xs v := by
  intro f xs v h
  unfold fs33 at h
  split at h
  · rename_i e; subst e; exact fewest_ok _ _ h
  exact fs32_ok _ _ _ h
attribute [go_sem] fs33 fewest_s
theorem li_plain {l : List Int} {n : Int} : Plain (.tup [.list .no 1 (l.map (.int .i64)), .int .i64 n]) := .tup (by simp; exact ⟨plain_ints _, .int⟩)
theorem false_p (e : Ear) (h1 : e.tones.length ≤ 4294967296) (h2 : e.rds.length ≤ 4294967296) : PureV Tryz.prog 36 [e.av] (.tup [.list .no 1 ((falseL e).1.map (.int .i64)), .int .i64 (falseL e).2]) := by
  refine PureV.of_ev (E := Tryz.E 14 (fun _ => ([], [])) fs33) (Tryz.envOK 14 (fun _ => ([], [])) fs33 fs33_ok) (li_plain) Tryz.kp36 Tryz.func36 rfl (by kernel_rfl) (by simp [Tryz.E]) (Callable.of Tryz.func36 (by kernel_rfl) (by kernel_rfl)) (by kernel_rfl) ?_
  intro σ
  by_cases hc : ck e = 0
  · have hd : falseL e = ((fewL e).headD [], 0) := by unfold falseL; rw [if_pos hc]
    have hlen := fewL_len hc
    have hpos : 0 < (fewL e).length := List.length_pos_iff.2 (fewL_ne hc)
    have hx : idx ((fewL e).map isv) 0 = some (isv ((fewL e).headD [])) := by
      have := idx_iss (L := fewL e) (i := 0) hpos
      rw [head_get hpos]; exact this
    rw [hd]
    obtain ⟨sl, ts, rs⟩ := e
    simp only [Ear.av]
    obtain ⟨L, hL⟩ : ∃ L, fewL ⟨sl, ts, rs⟩ = L := ⟨_, rfl⟩
    rw [hL] at hx hlen hpos ⊢
    simp only at h1 h2
    simp only [isv] at hx
    simp -implicitDefEqProofs (maxSteps := 2000000) (disch := omega) only [go_sem, reduceCtorEq, Nat.reduceAdd, Nat.reduceSub, Nat.reduceMul, Nat.reduceLT, Nat.reduceLeDiff, Nat.reduceEqDiff, Nat.reduceBEq, Int.reduceToNat, Int.reduceLT, Int.reduceLE, Int.reduceEq, Int.reduceNeg, Int.reduceAdd, Int.reduceSub, Int.reduceMul, ↓reduceIte, Int.reduceBEq, Int.reduceBNe, hc, hL, hx, tss]
  · have hd : falseL e = ([], ck e) := by unfold falseL; rw [if_neg hc]
    rw [hd]
    obtain ⟨sl, ts, rs⟩ := e
    simp only at h1 h2
    simp only [Ear.av]
    generalize hq : ck ⟨sl, ts, rs⟩ = q at hc
    simp -implicitDefEqProofs (maxSteps := 2000000) (disch := omega) only [go_sem, reduceCtorEq, Nat.reduceAdd, Nat.reduceSub, Nat.reduceMul, Nat.reduceLT, Nat.reduceLeDiff, Nat.reduceEqDiff, Nat.reduceBEq, Int.reduceToNat, Int.reduceLT, Int.reduceLE, Int.reduceEq, Int.reduceNeg, Int.reduceAdd, Int.reduceSub, Int.reduceMul, ↓reduceIte, Int.reduceBEq, Int.reduceBNe, hq, hc, List.map_nil]
def false_s := spec1 tEar fun e => if e.tones.length ≤ 4294967296 ∧ e.rds.length ≤ 4294967296 then some (.tup [.list .no 1 ((falseL e).1.map (.int .i64)), .int .i64 (falseL e).2]) else none
theorem false_ok : ∀ xs v, false_s xs = some v → PureV Tryz.prog 36 xs v :=
  spec1_ok fun e v h => by have h := someIf h; rw [← h.2]; exact false_p e h.1.1 h.1.2
set_option maxHeartbeats 1000000 in
theorem doubt_p (e : Ear) (h1 : e.tones.length ≤ 4294967296) (h2 : e.rds.length ≤ 4294967296) : PureV Tryz.prog 37 [e.av] (.tup [.list .no 1 ((doubtL e).1.map (.int .i64)), .int .i64 (doubtL e).2]) := by
  refine PureV.of_ev (E := Tryz.E 54 (fun _ => ([], [])) fs33) (Tryz.envOK 54 (fun _ => ([], [])) fs33 fs33_ok) (li_plain) Tryz.kp37 Tryz.func37 rfl (by kernel_rfl) (by simp [Tryz.E]) (Callable.of Tryz.func37 (by kernel_rfl) (by kernel_rfl)) (by kernel_rfl) ?_
  intro σ
  by_cases hc : ck e = 0
  · have hd : doubtL e = ((List.range e.rds.length).map fun (i : Nat) => verd (hasN (fewL e) (i : Int)) (fewL e).length, 0) := by unfold doubtL; rw [if_pos hc]
    have hlen := fewL_len hc
    obtain ⟨kk, hk1, hk2⟩ := fewL_mem hc
    have hrn := ck_rn hc
    have hel : ∀ l ∈ fewL e, l.length ≤ 6 := fun l hl => by rw [(comb_mem (hk2 l hl)).1]; omega
    rw [hd]
    obtain ⟨sl, ts, rs⟩ := e
    simp only at hrn h1 h2
    simp only [Ear.av]
    obtain ⟨L, hL⟩ : ∃ L, fewL ⟨sl, ts, rs⟩ = L := ⟨_, rfl⟩
    rw [hL] at hlen hel ⊢
    clear hk1 hk2 hd
    simp -implicitDefEqProofs (maxSteps := 2000000) (disch := omega) only [go_sem, reduceCtorEq, Nat.reduceAdd, Nat.reduceSub, Nat.reduceMul, Nat.reduceLT, Nat.reduceLeDiff, Nat.reduceEqDiff, Nat.reduceBEq, Int.reduceToNat, Int.reduceLT, Int.reduceLE, Int.reduceEq, Int.reduceNeg, Int.reduceAdd, Int.reduceSub, Int.reduceMul, ↓reduceIte, Int.reduceBEq, Int.reduceBNe, hc, hL, tss]
    refine ARun.ghost 6 1 (sz0 := 0) rfl (by simp [lookA]) ?_
    simp only [ins, ↓reduceIte, List.append_assoc, List.cons_append, List.nil_append, List.length_append, List.length_cons, List.length_nil, Nat.zero_add, Nat.reduceEqDiff, Nat.reduceAdd]
    refine ARun.forS (Tryz.envOK 54 (fun _ => ([], [])) fs33 fs33_ok) rs.length (fun _ => True) (fun i => [(6, .list (.own (σ.length + 1)) 1 (((List.range i).map fun (i : Nat) => verd (hasN L (i : Int)) L.length).map (.int .i64))), (21, .int .i64 i)]) (fun i j => σ ++ (.cells [.int .i64 sl, .list .no 2 (ts.map Rng.av), .list .no 6 (rs.map Rd.av)] :: .tail ((List.range i).map fun (i : Nat) => verd (hasN L (i : Int)) L.length).length 1 :: j)) [] (by kernel_rfl) (by simp) (by simp [upd, ins, subF, lookA]) trivial ?_ ?_
    · intro i j hi _ ih
      have hBl : ((List.range i).map fun (i : Nat) => verd (hasN L (i : Int)) L.length).length ≤ 6 := by simp; omega
      rw [List.range_succ, List.map_append] at ih
      simp only [List.map_cons, List.map_nil] at ih
      generalize ((List.range i).map fun (i : Nat) => verd (hasN L (i : Int)) L.length) = B at hBl ih ⊢
      simp -implicitDefEqProofs (maxSteps := 2000000) (disch := omega) only [go_sem, reduceCtorEq, Nat.reduceAdd, Nat.reduceSub, Nat.reduceMul, Nat.reduceLT, Nat.reduceLeDiff, Nat.reduceEqDiff, Nat.reduceBEq, Int.reduceToNat, Int.reduceLT, Int.reduceLE, Int.reduceEq, Int.reduceNeg, Int.reduceAdd, Int.reduceSub, Int.reduceMul, ↓reduceIte, Int.reduceBEq, Int.reduceBNe]
      refine ARun.forS (Tryz.envOK 54 (fun _ => ([], [])) fs33 fs33_ok) L.length (fun _ => True) (fun k => [(8, .int .i64 (hasN (L.take k) (i : Int))), (26, .int .i64 k)]) (fun _ _ => σ ++ (.cells [.int .i64 sl, .list .no 2 (ts.map Rng.av), .list .no 6 (rs.map Rd.av)] :: .tail B.length 1 :: j)) [] (by kernel_rfl) rfl (by simp [upd, ins, subF, lookA, hasN]) trivial ?_ ?_
      · intro k j2 hk _ ih2
        have hrk := idx_iss hk
        have hTl := hel _ (List.getElem_mem hk)
        have hst : hasN (L.take (k + 1)) (i : Int) = hasN (L.take k) (i : Int) + (if L[k].contains (i : Int) = true then 1 else 0) := filter_take_succ hk
        have hHl : hasN (L.take k) (i : Int) ≤ 117649 := Nat.le_trans (List.length_filter_le _ _) (by rw [List.length_take]; omega)
        rw [hst] at ih2
        clear hst hel ih
        generalize hasN (L.take k) (i : Int) = H at hHl ih2 ⊢
        generalize L[k] = T at hrk hTl ih2
        simp only [isv] at hrk
        cases hb : T.contains (i : Int)
        · rw [hb, if_neg (by simp)] at ih2
          simp -implicitDefEqProofs (maxSteps := 2000000) (disch := omega) only [go_sem, reduceCtorEq, Nat.reduceAdd, Nat.reduceSub, Nat.reduceMul, Nat.reduceLT, Nat.reduceLeDiff, Nat.reduceEqDiff, Nat.reduceBEq, Int.reduceToNat, Int.reduceLT, Int.reduceLE, Int.reduceEq, Int.reduceNeg, Int.reduceAdd, Int.reduceSub, Int.reduceMul, ↓reduceIte, Int.reduceBEq, Int.reduceBNe, hrk, hb]
          exact (ih2 trivial j2).castS rfl (by simp [upd, ins, subF, lookA])
        · rw [hb, if_pos rfl] at ih2
          simp -implicitDefEqProofs (maxSteps := 2000000) (disch := omega) only [go_sem, reduceCtorEq, Nat.reduceAdd, Nat.reduceSub, Nat.reduceMul, Nat.reduceLT, Nat.reduceLeDiff, Nat.reduceEqDiff, Nat.reduceBEq, Int.reduceToNat, Int.reduceLT, Int.reduceLE, Int.reduceEq, Int.reduceNeg, Int.reduceAdd, Int.reduceSub, Int.reduceMul, ↓reduceIte, Int.reduceBEq, Int.reduceBNe, hrk, hb]
          exact (ih2 trivial j2).castS rfl (by simp [upd, ins, subF, lookA])
      · intro j2 _
        rw [List.take_length]
        have hv : verd (hasN L (i : Int)) L.length = if hasN L (i : Int) = L.length then 1 else if hasN L (i : Int) = 0 then 2 else 3 := rfl
        have hHl : hasN L (i : Int) ≤ 117649 := Nat.le_trans (List.length_filter_le _ _) hlen
        rw [hv] at ih
        clear hv
        generalize hasN L (i : Int) = H at hHl ih ⊢
        by_cases e1 : H = L.length
        · rw [if_pos e1] at ih
          simp -implicitDefEqProofs (maxSteps := 2000000) (disch := omega) only [go_sem, reduceCtorEq, Nat.reduceAdd, Nat.reduceSub, Nat.reduceMul, Nat.reduceLT, Nat.reduceLeDiff, Nat.reduceEqDiff, Nat.reduceBEq, Int.reduceToNat, Int.reduceLT, Int.reduceLE, Int.reduceEq, Int.reduceNeg, Int.reduceAdd, Int.reduceSub, Int.reduceMul, ↓reduceIte, Int.reduceBEq, Int.reduceBNe, e1]
          exact (ih trivial j).castS (by simp) (by simp [upd, ins, subF, lookA])
        · rw [if_neg e1] at ih
          by_cases e0 : H = 0
          · rw [if_pos e0] at ih
            subst e0
            simp -implicitDefEqProofs (maxSteps := 2000000) (disch := omega) only [go_sem, reduceCtorEq, Nat.reduceAdd, Nat.reduceSub, Nat.reduceMul, Nat.reduceLT, Nat.reduceLeDiff, Nat.reduceEqDiff, Nat.reduceBEq, Int.reduceToNat, Int.reduceLT, Int.reduceLE, Int.reduceEq, Int.reduceNeg, Int.reduceAdd, Int.reduceSub, Int.reduceMul, ↓reduceIte, Int.reduceBEq, Int.reduceBNe, e1]
            exact (ih trivial j).castS (by simp) (by simp [upd, ins, subF, lookA])
          · rw [if_neg e0] at ih
            simp -implicitDefEqProofs (maxSteps := 2000000) (disch := omega) only [go_sem, reduceCtorEq, Nat.reduceAdd, Nat.reduceSub, Nat.reduceMul, Nat.reduceLT, Nat.reduceLeDiff, Nat.reduceEqDiff, Nat.reduceBEq, Int.reduceToNat, Int.reduceLT, Int.reduceLE, Int.reduceEq, Int.reduceNeg, Int.reduceAdd, Int.reduceSub, Int.reduceMul, ↓reduceIte, Int.reduceBEq, Int.reduceBNe, e1, e0]
            exact (ih trivial j).castS (by simp) (by simp [upd, ins, subF, lookA])
    · intro j _
      generalize ((List.range rs.length).map fun (i : Nat) => verd (hasN L (i : Int)) L.length) = B
      simp -implicitDefEqProofs (maxSteps := 2000000) (disch := omega) only [go_sem, reduceCtorEq, Nat.reduceAdd, Nat.reduceSub, Nat.reduceMul, Nat.reduceLT, Nat.reduceLeDiff, Nat.reduceEqDiff, Nat.reduceBEq, Int.reduceToNat, Int.reduceLT, Int.reduceLE, Int.reduceEq, Int.reduceNeg, Int.reduceAdd, Int.reduceSub, Int.reduceMul, ↓reduceIte, Int.reduceBEq, Int.reduceBNe]
  · have hd : doubtL e = ([], ck e) := by unfold doubtL; rw [if_neg hc]
    rw [hd]
    obtain ⟨sl, ts, rs⟩ := e
    simp only at h1 h2
    simp only [Ear.av]
    generalize hq : ck ⟨sl, ts, rs⟩ = q at hc
    simp -implicitDefEqProofs (maxSteps := 2000000) (disch := omega) only [go_sem, reduceCtorEq, Nat.reduceAdd, Nat.reduceSub, Nat.reduceMul, Nat.reduceLT, Nat.reduceLeDiff, Nat.reduceEqDiff, Nat.reduceBEq, Int.reduceToNat, Int.reduceLT, Int.reduceLE, Int.reduceEq, Int.reduceNeg, Int.reduceAdd, Int.reduceSub, Int.reduceMul, ↓reduceIte, Int.reduceBEq, Int.reduceBNe, hq, hc, List.map_nil]
def doubt_s := spec1 tEar fun e => if e.tones.length ≤ 4294967296 ∧ e.rds.length ≤ 4294967296 then some (.tup [.list .no 1 ((doubtL e).1.map (.int .i64)), .int .i64 (doubtL e).2]) else none
theorem doubt_ok : ∀ xs v, doubt_s xs = some v → PureV Tryz.prog 37 xs v :=
  spec1_ok fun e v h => by have h := someIf h; rw [← h.2]; exact doubt_p e h.1.1 h.1.2
end Go.Proofs
set_option linter.unusedSimpArgs false
set_option linter.unusedVariables false
set_option maxRecDepth 100000
namespace Go.Proofs
open Go Go.Mu

def rfalse_s := spec1 tEar fun e => if e.tones.length ≤ 4294967296 ∧ e.rds.length ≤ 4294967296 then some (.tup [.list .no 1 ((falseL e).1.map (.int .i64)), .int .i64 (falseL e).2]) else none
def rdoubt_s := spec1 tEar fun e => if e.tones.length ≤ 4294967296 ∧ e.rds.length ≤ 4294967296 then some (.tup [.list .no 1 ((doubtL e).1.map (.int .i64)), .int .i64 (doubtL e).2]) else none
end Go.Proofs
