/- Texts of a proof: lemmas. -/
import Derived.Test.YtpodkdondibbfaaA5
set_option linter.unusedSimpArgs false
set_option linter.unusedVariables false
set_option maxRecDepth 100000
namespace Go.Proofs
open Go Go.Mu

theorem firstE_all {α : Type} {f : α → Int} : ∀ {l : List α}, firstE f l = 0 → ∀ x ∈ l, f x = 0
  | [], _, x, h => by simp at h
  | y :: l, e, x, h => by
    simp only [firstE] at e
    split at e
    · rename_i hy
      rcases List.mem_cons.1 h with rfl | h
      · exact hy
      · exact firstE_all e x h
    · rename_i hy; exact absurd e hy
theorem okR_of_ck {r : Rd} {m : Nat} (hm : m ≤ 3) (h : ckR r m = 0) : okR r := by
  simp only [ckR] at h
  unfold okR
  grind (splits := 40)
theorem okE_of_ck {e : Ear} (h : ck e = 0) : OkE e := by
  have h0 := h
  simp only [ck] at h
  have hl : e.tones.length ≤ 3 := by grind
  refine ⟨hl, fun x hx => ?_, fun r hr => okR_of_ck hl (firstE_all (f := fun r => ckR r e.tones.length) (by grind) r hr), by grind, by grind⟩
  have := firstE_all (f := ckT) (l := e.tones) (by grind) x hx
  simp only [ckT] at this
  grind
theorem flatMap_len {α : Type} {f : Nat → List α} {b : Nat} : ∀ n, (∀ k, k < n → (f k).length ≤ b) → ((List.range n).flatMap f).length ≤ n * b
  | 0, _ => by simp
  | n + 1, h => by
    rw [flatMap_succ, List.length_append, Nat.succ_mul]
    exact Nat.add_le_add (flatMap_len n fun k hk => h k (by omega)) (h n (by omega))
theorem allT_len (e : Ear) (he : OkE e) : ∀ (m : Nat) (t : List Int) (a : Nat), a + m = e.tones.length → (allT e m t a).length ≤ 21 ^ m
  | 0, t, a, h => by simp only [allT]; split <;> simp
  | m + 1, t, a, h => by
    simp only [allT]
    have hal : a < e.tones.length := by omega
    have hx := he.tone _ (List.getElem_mem hal)
    have hgd : e.tones.getD a default = e.tones[a] := by simp [List.getD, List.getElem?_eq_getElem hal]
    rw [hgd]
    refine Nat.le_trans (flatMap_len _ fun k hk => allT_len e he m _ (a + 1) (by omega)) ?_
    rw [Nat.pow_succ, Nat.mul_comm]
    exact Nat.mul_le_mul_left _ (by omega)
theorem truthsL_len {e : Ear} (he : OkE e) : (truthsL e).length ≤ 9261 :=
  Nat.le_trans (allT_len e he _ _ _ (by omega)) (Nat.le_trans (Nat.pow_le_pow_right (by omega) he.len) (by decide))

/-- All truths of an ear, or its error. -/
def knownL (e : Ear) : List (List Int) × Int := if ck e ≠ 0 then ([], ck e) else if truthsL e = [] then ([], 9) else (truthsL e, 0)
def askL (e : Ear) (w : Int) : List (List Int) × Int := if ck e ≠ 0 then ([], ck e) else if w ≠ 0 then ([], w) else knownL e
theorem knownL_p {p : List (List Int) × Int} : Plain (.tup [tavs p.1, .int .i64 p.2]) := .tup (by simp; exact ⟨tavs_plain _, .int⟩)

theorem known_p (e : Ear) (h1 : e.tones.length ≤ 4294967296) (h2 : e.rds.length ≤ 4294967296) : PureV Try.prog 48 [e.av] (.tup [tavs (knownL e).1, .int .i64 (knownL e).2]) := by
  refine PureV.of_ev (E := Try.E 18 (fun _ => ([], [])) fs5) (Try.envOK 18 (fun _ => ([], [])) fs5 fs5_ok) (knownL_p) Try.kp48 Try.func48 rfl (by kernel_rfl) (by simp [Try.E]) (Callable.of Try.func48 (by kernel_rfl) (by kernel_rfl)) (by kernel_rfl) ?_
  intro σ
  have hw := check_p e h1 h2
  simp only [Ear.av]
  by_cases hc : ck e = 0
  · have he := okE_of_ck hc
    simp -implicitDefEqProofs (maxSteps := 2000000) (disch := omega) only [go_sem, reduceCtorEq, Nat.reduceAdd, Nat.reduceSub, Nat.reduceMul, Nat.reduceLT, Nat.reduceLeDiff, Nat.reduceEqDiff, Nat.reduceBEq, Int.reduceToNat, Int.reduceLT, Int.reduceLE, Int.reduceEq, Int.reduceNeg, Int.reduceAdd, Int.reduceSub, Int.reduceMul, ↓reduceIte, Int.reduceBEq, Int.reduceBNe, hc]
    refine truths_c e he _ _ fun re rl junk hI => ?_
    simp only [List.append_assoc, List.cons_append, List.nil_append] at hI
    simp -implicitDefEqProofs (maxSteps := 2000000) (disch := omega) only [go_sem, reduceCtorEq, Nat.reduceAdd, Nat.reduceSub, Nat.reduceMul, Nat.reduceLT, Nat.reduceLeDiff, Nat.reduceEqDiff, Nat.reduceBEq, Int.reduceToNat, Int.reduceLT, Int.reduceLE, Int.reduceEq, Int.reduceNeg, Int.reduceAdd, Int.reduceSub, Int.reduceMul, ↓reduceIte, Int.reduceBEq, Int.reduceBNe, hc]
    refine collect_c hI (by rw [List.length_map]; have := truthsL_len he; omega) (tavs_agg he) (tavs_plain _) ?_
    have hl := truthsL_len he
    by_cases hn : truthsL e = []
    · simp -implicitDefEqProofs (maxSteps := 2000000) (disch := omega) only [go_sem, reduceCtorEq, Nat.reduceAdd, Nat.reduceSub, Nat.reduceMul, Nat.reduceLT, Nat.reduceLeDiff, Nat.reduceEqDiff, Nat.reduceBEq, Int.reduceToNat, Int.reduceLT, Int.reduceLE, Int.reduceEq, Int.reduceNeg, Int.reduceAdd, Int.reduceSub, Int.reduceMul, ↓reduceIte, Int.reduceBEq, Int.reduceBNe, hc, hn]
      simp [knownL, hc, hn, tavs, wk1_list]
    · have hz : ¬ (truthsL e).length = 0 := fun h => hn (List.length_eq_zero_iff.1 h)
      simp -implicitDefEqProofs (maxSteps := 2000000) (disch := omega) only [go_sem, reduceCtorEq, Nat.reduceAdd, Nat.reduceSub, Nat.reduceMul, Nat.reduceLT, Nat.reduceLeDiff, Nat.reduceEqDiff, Nat.reduceBEq, Int.reduceToNat, Int.reduceLT, Int.reduceLE, Int.reduceEq, Int.reduceNeg, Int.reduceAdd, Int.reduceSub, Int.reduceMul, ↓reduceIte, Int.reduceBEq, Int.reduceBNe, hc, hn]
      simp [knownL, hc, hn, tavs, wk1_list]
  · simp -implicitDefEqProofs (maxSteps := 2000000) (disch := omega) only [go_sem, reduceCtorEq, Nat.reduceAdd, Nat.reduceSub, Nat.reduceMul, Nat.reduceLT, Nat.reduceLeDiff, Nat.reduceEqDiff, Nat.reduceBEq, Int.reduceToNat, Int.reduceLT, Int.reduceLE, Int.reduceEq, Int.reduceNeg, Int.reduceAdd, Int.reduceSub, Int.reduceMul, ↓reduceIte, Int.reduceBEq, Int.reduceBNe, hc]
    simp [knownL, hc, tavs, wk1_list]
def known_s := spec1 tEar fun e => if e.tones.length ≤ 4294967296 ∧ e.rds.length ≤ 4294967296 then some (.tup [tavs (knownL e).1, .int .i64 (knownL e).2]) else none
theorem known_ok : ∀ xs v, known_s xs = some v → PureV Try.prog 48 xs v :=
  spec1_ok fun e v h => by have h := someIf h; rw [← h.2]; exact known_p e h.1.1 h.1.2
def fs7 (f : FuncId) (xs : List AV) : Option AV := if f = 48 then known_s xs else fs5 f xs
theorem fs7_ok : ∀ f xs v, fs7 f xs = some v → PureV Try.prog f xs v := by
  intro f xs v h
  unfold fs7 at h
  split at h
  · rename_i e; subst e; exact known_ok _ _ h
  exact fs5_ok _ _ _ h
attribute [go_sem] fs7 known_s
theorem ask_p (e : Ear) (w : Int) (h1 : e.tones.length ≤ 4294967296) (h2 : e.rds.length ≤ 4294967296) : PureV Try.prog 43 [e.av, .int .i64 w] (.tup [tavs (askL e w).1, .int .i64 (askL e w).2]) := by
  refine PureV.of_ev (E := Try.E 19 (fun _ => ([], [])) fs7) (Try.envOK 19 (fun _ => ([], [])) fs7 fs7_ok) (knownL_p) Try.kp43 Try.func43 rfl (by kernel_rfl) (by simp [Try.E]) (Callable.of Try.func43 (by kernel_rfl) (by kernel_rfl)) (by kernel_rfl) ?_
  intro σ
  simp only [Ear.av]
  simp -implicitDefEqProofs (maxSteps := 2000000) (disch := omega) only [go_sem, reduceCtorEq, Nat.reduceAdd, Nat.reduceSub, Nat.reduceMul, Nat.reduceLT, Nat.reduceLeDiff, Nat.reduceEqDiff, Nat.reduceBEq, Int.reduceToNat, Int.reduceLT, Int.reduceLE, Int.reduceEq, Int.reduceNeg, Int.reduceAdd, Int.reduceSub, Int.reduceMul, ↓reduceIte, Int.reduceBEq, Int.reduceBNe, tavs]
  refine ⟨fun q1 => ?_, fun q1 => ⟨fun q2 => ?_, fun q2 => ?_⟩⟩ <;> simp [askL, *]
def ask_s := spec2 tEar tI fun e w => if e.tones.length ≤ 4294967296 ∧ e.rds.length ≤ 4294967296 then some (.tup [tavs (askL e w).1, .int .i64 (askL e w).2]) else none
theorem ask_ok : ∀ xs v, ask_s xs = some v → PureV Try.prog 43 xs v :=
  spec2_ok fun e w v h => by have h := someIf h; rw [← h.2]; exact ask_p e w h.1.1 h.1.2
def fs8 (f : FuncId) (xs : List AV) : Option AV := if f = 43 then ask_s xs else fs7 f xs
theorem fs8_ok : ∀ f xs v, fs8 f xs = some v → PureV Try.prog f xs v := by
  intro f xs v h
  unfold fs8 at h
  split at h
  · rename_i e; subst e; exact ask_ok _ _ h
  exact fs7_ok _ _ _ h
attribute [go_sem] fs8 ask_s

/-- A function value that computes alone, as long as some objects are as they were. -/
def ClV (P : Program) (g : FuncId) (p q : List AV) (σ : List AObj) (xs : List AV) (v : AV) : Prop :=
  ∀ σ', σ.length ≤ σ'.length → (∀ k, k < σ.length → hget σ' k = hget σ k) → ∀ Q : AV → List AObj → Prop, Q v σ' → ACalls P g (p ++ xs ++ q) σ' Q
theorem ClV.app {P : Program} {g : FuncId} {p q : List AV} {σ l : List AObj} {xs : List AV} {v : AV} (h : ClV P g p q σ xs v) {Q : AV → List AObj → Prop} (hq : Q v (σ ++ l)) : ACalls P g (p ++ xs ++ q) (σ ++ l) Q :=
  h _ (by simp) (fun k hk => hget_app hk) Q hq
theorem ClV.app1 {P : Program} {g : FuncId} {p q : List AV} {σ l : List AObj} {x : AV} {v : AV} (h : ClV P g p q σ [x] v) {Q : AV → List AObj → Prop} (hq : Q v (σ ++ l)) : ACalls P g (p ++ x :: q) (σ ++ l) Q := by
  have := h.app (l := l) hq
  simpa using this
def mn (a b : Int) : Int := if b < a then b else a
def mx (a b : Int) : Int := if a < b then b else a
def spanS (num : List Int → Int) (x : Rng) (t : List Int) : Rng := ⟨mn x.lo (num t), mx x.hi (num t)⟩
def spanL (num : List Int → Int) (l : List (List Int)) : Rng := l.foldl (spanS num) ⟨num (l.headD []), num (l.headD [])⟩
theorem span_c {g : FuncId} {p q : List AV} {σ : List AObj} (num : List Int → Int) (l : List (List Int)) (hl : l ≠ []) (hl2 : l.length ≤ 4294967296) (h3 : ∀ t ∈ l, t.length = 3) (hn : ∀ t ∈ l, ClV Try.prog g p q σ [tav t] (.int .i64 (num t))) (Q : AV → List AObj → Prop) (h : Q (spanL num l).av σ) :
    ACalls Try.prog 46 [tavs l, .fn (.func g) p q] σ Q := by
  refine ACalls.clean_ev (E := Try.E 40 Try.ord46 fs0) (Try.envOK 40 Try.ord46 fs0 fs0_ok) (Rng.plain _ _) (h) Try.kp46 Try.func46 rfl (by kernel_rfl) (by simp [Try.E]) (Callable.of Try.func46 (by kernel_rfl) (by kernel_rfl)) (by kernel_rfl) ?_
  simp only [tavs]
  have h0 : 0 < l.length := List.length_pos_iff.2 hl
  have hidx : ∀ f : List Int → AV, idx (l.map f) 0 = some (f l[0]) := fun f => idx_map (i := 0) h0
  have hc3 : ∀ t ∈ l, ∃ cs, tav t = .agg cs ∧ cs.length = 3 := fun t ht => ⟨_, rfl, by simpa using h3 t ht⟩
  have hm0 : l[0] ∈ l := List.getElem_mem h0
  have h30 := h3 _ hm0
  simp -implicitDefEqProofs (maxSteps := 2000000) (disch := omega) only [go_sem, reduceCtorEq, Nat.reduceAdd, Nat.reduceSub, Nat.reduceMul, Nat.reduceLT, Nat.reduceLeDiff, Nat.reduceEqDiff, Nat.reduceBEq, Int.reduceToNat, Int.reduceLT, Int.reduceLE, Int.reduceEq, Int.reduceNeg, Int.reduceAdd, Int.reduceSub, Int.reduceMul, ↓reduceIte, Int.reduceBEq, Int.reduceBNe, hidx, tav]
  refine (hn _ hm0).app1 ?_
  simp -implicitDefEqProofs (maxSteps := 2000000) (disch := omega) only [go_sem, reduceCtorEq, Nat.reduceAdd, Nat.reduceSub, Nat.reduceMul, Nat.reduceLT, Nat.reduceLeDiff, Nat.reduceEqDiff, Nat.reduceBEq, Int.reduceToNat, Int.reduceLT, Int.reduceLE, Int.reduceEq, Int.reduceNeg, Int.reduceAdd, Int.reduceSub, Int.reduceMul, ↓reduceIte, Int.reduceBEq, Int.reduceBNe, hidx, tav]
  refine (hn _ hm0).app1 ?_
  simp -implicitDefEqProofs (maxSteps := 2000000) (disch := omega) only [go_sem, reduceCtorEq, Nat.reduceAdd, Nat.reduceSub, Nat.reduceMul, Nat.reduceLT, Nat.reduceLeDiff, Nat.reduceEqDiff, Nat.reduceBEq, Int.reduceToNat, Int.reduceLT, Int.reduceLE, Int.reduceEq, Int.reduceNeg, Int.reduceAdd, Int.reduceSub, Int.reduceMul, ↓reduceIte, Int.reduceBEq, Int.reduceBNe, hidx, tav]
  have hd : l.headD [] = l[0] := by cases l with | nil => exact absurd rfl hl | cons a b => rfl
  refine ARun.forS (Try.envOK 40 Try.ord46 fs0 fs0_ok) l.length (fun _ => True) (fun i => [(21, .int .i64 i)]) (fun i j => σ ++ (.cells [.int .i64 0, .int .i64 0] :: .cells [.int .i64 ((l.take i).foldl (spanS num) ⟨num l[0], num l[0]⟩).lo, .int .i64 ((l.take i).foldl (spanS num) ⟨num l[0], num l[0]⟩).hi] :: j)) [] (by kernel_rfl) rfl (by simp [upd, ins, subF, lookA]) trivial ?_ ?_
  · intro i j hi _ ih
    have hmi : l[i] ∈ l := List.getElem_mem hi
    have h3i := h3 _ hmi
    simp -implicitDefEqProofs (maxSteps := 2000000) (disch := omega) only [go_sem, reduceCtorEq, Nat.reduceAdd, Nat.reduceSub, Nat.reduceMul, Nat.reduceLT, Nat.reduceLeDiff, Nat.reduceEqDiff, Nat.reduceBEq, Int.reduceToNat, Int.reduceLT, Int.reduceLE, Int.reduceEq, Int.reduceNeg, Int.reduceAdd, Int.reduceSub, Int.reduceMul, ↓reduceIte, Int.reduceBEq, Int.reduceBNe, tav]
    refine (hn _ hmi).app1 ?_
    simp -implicitDefEqProofs (maxSteps := 2000000) (disch := omega) only [go_sem, reduceCtorEq, Nat.reduceAdd, Nat.reduceSub, Nat.reduceMul, Nat.reduceLT, Nat.reduceLeDiff, Nat.reduceEqDiff, Nat.reduceBEq, Int.reduceToNat, Int.reduceLT, Int.reduceLE, Int.reduceEq, Int.reduceNeg, Int.reduceAdd, Int.reduceSub, Int.reduceMul, ↓reduceIte, Int.reduceBEq, Int.reduceBNe, tav]
    refine (hn _ hmi).app1 ?_
    simp -implicitDefEqProofs (maxSteps := 2000000) (disch := omega) only [go_sem, reduceCtorEq, Nat.reduceAdd, Nat.reduceSub, Nat.reduceMul, Nat.reduceLT, Nat.reduceLeDiff, Nat.reduceEqDiff, Nat.reduceBEq, Int.reduceToNat, Int.reduceLT, Int.reduceLE, Int.reduceEq, Int.reduceNeg, Int.reduceAdd, Int.reduceSub, Int.reduceMul, ↓reduceIte, Int.reduceBEq, Int.reduceBNe, tav]
    refine (ih trivial (j ++ [_])).castS (by rw [foldl_take _ _ _ _ hi]; rfl) (by simp [upd, ins, subF, lookA, tav])
  · intro j _
    simp -implicitDefEqProofs (maxSteps := 2000000) (disch := omega) only [go_sem, reduceCtorEq, Nat.reduceAdd, Nat.reduceSub, Nat.reduceMul, Nat.reduceLT, Nat.reduceLeDiff, Nat.reduceEqDiff, Nat.reduceBEq, Int.reduceToNat, Int.reduceLT, Int.reduceLE, Int.reduceEq, Int.reduceNeg, Int.reduceAdd, Int.reduceSub, Int.reduceMul, ↓reduceIte, Int.reduceBEq, Int.reduceBNe, tav]
    have hsp : spanL num l = l.foldl (spanS num) ⟨num l[0], num l[0]⟩ := by rw [spanL, hd]
    rw [hsp]
    simp [Rng.av, wk, wk1, wkL, wk0]
end Go.Proofs
set_option linter.unusedSimpArgs false
set_option linter.unusedVariables false
set_option maxRecDepth 100000
namespace Go.Proofs
open Go Go.Mu

/-- A verdict: how many are so, of how many. -/
def verd (so n : Nat) : Int := if so = n then 1 else if so = 0 then 2 else 3
theorem filter_take_succ {α : Type} {f : α → Bool} {l : List α} {i : Nat} (h : i < l.length) : ((l.take (i + 1)).filter f).length = ((l.take i).filter f).length + (if f l[i] then 1 else 0) := by
  rw [List.take_succ_eq_append_getElem h, List.filter_append, List.length_append]
  by_cases hf : f l[i] = true
  · simp [List.filter_cons, hf]
  · simp [List.filter_cons, hf]
theorem tones1_v {σ : List AObj} {r : Nat} {x : Int} (hg : hget σ r = some (.cells [.int .i64 x])) (hx : 0 ≤ x ∧ x ≤ 2) {t : List Int} (ht : t.length = 3) : ClV Try.prog 49 [] [.ptr r 0] σ [tav t] (.int .i64 (tg t x)) := by
  intro σ' hl hs Q hq
  have hg' : ∀ l, hget (σ' ++ l) r = some (.cells [.int .i64 x]) := fun l => by rw [hget_app (by have := hget_lt hg; omega), hs _ (hget_lt hg)]; exact hg
  simp only [List.nil_append, List.cons_append]
  refine ACalls.clean_ev (E := Try.E 7 (fun _ => ([], [])) fs0) (Try.envOK 7 (fun _ => ([], [])) fs0 fs0_ok) (.int _ _) (hq) Try.kp49 Try.func49 rfl (by kernel_rfl) (by simp [Try.E]) (Callable.of Try.func49 (by kernel_rfl) (by kernel_rfl)) (by kernel_rfl) ?_
  simp only [tav]
  simp -implicitDefEqProofs (maxSteps := 2000000) (disch := omega) only [go_sem, reduceCtorEq, Nat.reduceAdd, Nat.reduceSub, Nat.reduceMul, Nat.reduceLT, Nat.reduceLeDiff, Nat.reduceEqDiff, Nat.reduceBEq, Int.reduceToNat, Int.reduceLT, Int.reduceLE, Int.reduceEq, Int.reduceNeg, Int.reduceAdd, Int.reduceSub, Int.reduceMul, ↓reduceIte, Int.reduceBEq, Int.reduceBNe, hg']
theorem gate1_v {σ : List AObj} {r : Nat} {x : Int} (hg : hget σ r = some (.cells [.int .i64 x])) (hx : 0 ≤ x ∧ x ≤ 2) {t : List Int} (ht : t.length = 3) : ClV Try.prog 47 [] [.ptr r 0] σ [tav t] (.int .i64 (tg t x)) := by
  intro σ' hl hs Q hq
  have hg' : ∀ l, hget (σ' ++ l) r = some (.cells [.int .i64 x]) := fun l => by rw [hget_app (by have := hget_lt hg; omega), hs _ (hget_lt hg)]; exact hg
  simp only [List.nil_append, List.cons_append]
  refine ACalls.clean_ev (E := Try.E 7 (fun _ => ([], [])) fs0) (Try.envOK 7 (fun _ => ([], [])) fs0 fs0_ok) (.int _ _) (hq) Try.kp47 Try.func47 rfl (by kernel_rfl) (by simp [Try.E]) (Callable.of Try.func47 (by kernel_rfl) (by kernel_rfl)) (by kernel_rfl) ?_
  simp only [tav]
  simp -implicitDefEqProofs (maxSteps := 2000000) (disch := omega) only [go_sem, reduceCtorEq, Nat.reduceAdd, Nat.reduceSub, Nat.reduceMul, Nat.reduceLT, Nat.reduceLeDiff, Nat.reduceEqDiff, Nat.reduceBEq, Int.reduceToNat, Int.reduceLT, Int.reduceLE, Int.reduceEq, Int.reduceNeg, Int.reduceAdd, Int.reduceSub, Int.reduceMul, ↓reduceIte, Int.reduceBEq, Int.reduceBNe, hg']
theorem knownL_ok {e : Ear} (h : (knownL e).2 = 0) : ck e = 0 ∧ truthsL e ≠ [] ∧ knownL e = (truthsL e, 0) := by
  unfold knownL at h ⊢
  split at h
  · rename_i hc; exact absurd h hc
  · rename_i hc
    split at h
    · simp at h
    · rename_i hn
      refine ⟨by simpa using hc, hn, by rw [if_neg hc, if_neg hn]⟩
/-- The ranges of all tones. -/
def tonesL (e : Ear) : List Rng × Int := if (knownL e).2 = 0 then ((List.range e.tones.length).map fun (i : Nat) => spanL (fun t => tg t i) (truthsL e), 0) else ([], (knownL e).2)
theorem tonesL_p {p : List Rng × Int} : Plain (.tup [.list .no 2 (p.1.map Rng.av), .int .i64 p.2]) := .tup (by simp; exact ⟨.map fun x _ => Rng.plain x, .int⟩)
theorem tones_p (e : Ear) (h1 : e.tones.length ≤ 4294967296) (h2 : e.rds.length ≤ 4294967296) : PureV Try.prog 21 [e.av] (.tup [.list .no 2 ((tonesL e).1.map Rng.av), .int .i64 (tonesL e).2]) := by
  refine PureV.of_ev (E := Try.E 30 (fun _ => ([], [])) fs8) (Try.envOK 30 (fun _ => ([], [])) fs8 fs8_ok) (tonesL_p) Try.kp21 Try.func21 rfl (by kernel_rfl) (by simp [Try.E]) (Callable.of Try.func21 (by kernel_rfl) (by kernel_rfl)) (by kernel_rfl) ?_
  intro σ
  simp only [Ear.av]
  by_cases hk : (knownL e).2 = 0
  · obtain ⟨hc, hn, hke⟩ := knownL_ok hk
    have he := okE_of_ck hc
    have hlen := he.len
    have htl := truthsL_len he
    simp -implicitDefEqProofs (maxSteps := 2000000) (disch := omega) only [go_sem, reduceCtorEq, Nat.reduceAdd, Nat.reduceSub, Nat.reduceMul, Nat.reduceLT, Nat.reduceLeDiff, Nat.reduceEqDiff, Nat.reduceBEq, Int.reduceToNat, Int.reduceLT, Int.reduceLE, Int.reduceEq, Int.reduceNeg, Int.reduceAdd, Int.reduceSub, Int.reduceMul, ↓reduceIte, Int.reduceBEq, Int.reduceBNe, hke, tavs]
    refine ARun.ghost 6 2 (sz0 := 0) rfl (by simp [lookA]) ?_
    simp only [ins, ↓reduceIte, List.append_assoc, List.cons_append, List.nil_append, List.length_append, List.length_cons, List.length_nil, Nat.zero_add, Nat.reduceEqDiff]
    refine ARun.forS (Try.envOK 30 (fun _ => ([], [])) fs8 fs8_ok) e.tones.length (fun _ => True) (fun i => [(6, .list (.own (σ.length + 1)) 2 (((List.range i).map fun (i : Nat) => spanL (fun t => tg t i) (truthsL e)).map Rng.av)), (19, .int .i64 i)]) (fun i j => σ ++ (.cells e.cells :: .tail i 2 :: j)) [] (by kernel_rfl) (by simp [Ear.cells]) (by simp [upd, ins, subF, lookA]) trivial ?_ ?_
    · intro i j hi _ ih
      simp -implicitDefEqProofs (maxSteps := 2000000) (disch := omega) only [go_sem, reduceCtorEq, Nat.reduceAdd, Nat.reduceSub, Nat.reduceMul, Nat.reduceLT, Nat.reduceLeDiff, Nat.reduceEqDiff, Nat.reduceBEq, Int.reduceToNat, Int.reduceLT, Int.reduceLE, Int.reduceEq, Int.reduceNeg, Int.reduceAdd, Int.reduceSub, Int.reduceMul, ↓reduceIte, Int.reduceBEq, Int.reduceBNe, Ear.cells]
      refine span_c (fun t => tg t i) (truthsL e) hn (by omega) (fun t ht => (truthsL_ok he t ht).1) (fun t ht => tones1_v (x := i) ?_ (by omega) (truthsL_ok he t ht).1) _ ?_
      · rw [hget_at]; simp
      · have hfl : ∀ x : Rng, x.av.flat = true := fun _ => rfl
        have hcl : ∀ x : Rng, x.av.cells.length = 2 := fun _ => rfl
        have hrl : (List.range i).length = i := List.length_range
        simp -implicitDefEqProofs (maxSteps := 2000000) (disch := omega) only [go_sem, reduceCtorEq, Nat.reduceAdd, Nat.reduceSub, Nat.reduceMul, Nat.reduceLT, Nat.reduceLeDiff, Nat.reduceEqDiff, Nat.reduceBEq, Int.reduceToNat, Int.reduceLT, Int.reduceLE, Int.reduceEq, Int.reduceNeg, Int.reduceAdd, Int.reduceSub, Int.reduceMul, ↓reduceIte, Int.reduceBEq, Int.reduceBNe, Ear.cells, hfl, hcl, hrl]
        refine (ih trivial (j ++ [_])).castS rfl (by simp [upd, ins, subF, lookA, List.range_succ])
    · intro j _
      simp -implicitDefEqProofs (maxSteps := 2000000) (disch := omega) only [go_sem, reduceCtorEq, Nat.reduceAdd, Nat.reduceSub, Nat.reduceMul, Nat.reduceLT, Nat.reduceLeDiff, Nat.reduceEqDiff, Nat.reduceBEq, Int.reduceToNat, Int.reduceLT, Int.reduceLE, Int.reduceEq, Int.reduceNeg, Int.reduceAdd, Int.reduceSub, Int.reduceMul, ↓reduceIte, Int.reduceBEq, Int.reduceBNe, Ear.cells]
      simp [tonesL, hk]
  · have hk' : ¬ (knownL ⟨e.slack, e.tones, e.rds⟩).2 = 0 := hk
    simp -implicitDefEqProofs (maxSteps := 2000000) (disch := omega) only [go_sem, reduceCtorEq, Nat.reduceAdd, Nat.reduceSub, Nat.reduceMul, Nat.reduceLT, Nat.reduceLeDiff, Nat.reduceEqDiff, Nat.reduceBEq, Int.reduceToNat, Int.reduceLT, Int.reduceLE, Int.reduceEq, Int.reduceNeg, Int.reduceAdd, Int.reduceSub, Int.reduceMul, ↓reduceIte, Int.reduceBEq, Int.reduceBNe, hk']
    simp [tonesL, hk]
def tones_s := spec1 tEar fun e => if e.tones.length ≤ 4294967296 ∧ e.rds.length ≤ 4294967296 then some (.tup [.list .no 2 ((tonesL e).1.map Rng.av), .int .i64 (tonesL e).2]) else none
theorem tones_ok : ∀ xs v, tones_s xs = some v → PureV Try.prog 21 xs v :=
  spec1_ok fun e v h => by have h := someIf h; rw [← h.2]; exact tones_p e h.1.1 h.1.2

theorem askL_ok {e : Ear} {w : Int} (h : (askL e w).2 = 0) : ck e = 0 ∧ w = 0 ∧ truthsL e ≠ [] ∧ askL e w = (truthsL e, 0) := by
  unfold askL at h ⊢
  split at h
  · rename_i hc; exact absurd h hc
  · rename_i hc
    split at h
    · rename_i hw; exact absurd h hw
    · rename_i hw
      obtain ⟨h1, h2, h3⟩ := knownL_ok h
      exact ⟨h1, by simpa using hw, h2, by rw [if_neg hc, if_neg hw, h3]⟩
theorem ckTwo_ok {m : Nat} {a b : Int} (hm : m ≤ 3) (h : ckTwo m a b = 0) : (0 ≤ a ∧ a ≤ 2) ∧ (0 ≤ b ∧ b ≤ 2) ∧ a ≠ b := by
  simp only [ckTwo] at h; grind
/-- Whether one tongue is higher. -/
def higherL (e : Ear) (a b : Int) : Int × Int :=
  if (askL e (ckTwo e.tones.length a b)).2 = 0 then (verd ((truthsL e).filter fun t => decide (tg t b < tg t a)).length (truthsL e).length, 0) else (0, (askL e (ckTwo e.tones.length a b)).2)
def higher_m_s := spec3 tEar tI tI fun e a b => if e.tones.length ≤ 4294967296 ∧ e.rds.length ≤ 4294967296 then some (.tup [.int .i64 (higherL e a b).1, .int .i64 (higherL e a b).2]) else none
def fs9 (f : FuncId) (xs : List AV) : Option AV := if f = 21 then tones_s xs else fs8 f xs
theorem fs9_ok : ∀ f xs v, fs9 f xs = some v → PureV Try.prog f xs v := by
  intro f xs v h
  unfold fs9 at h
  split at h
  · rename_i e; subst e; exact tones_ok _ _ h
  exact fs8_ok _ _ _ h
attribute [go_sem] fs9 tones_s
end Go.Proofs
set_option linter.unusedSimpArgs false
set_option linter.unusedVariables false
set_option maxRecDepth 100000
namespace Go.Proofs
open Go Go.Mu

def withS (r : Rd) (c : Int) : Rd := ⟨r.kind, r.a, r.b, r.sec, ⟨c, c⟩⟩
def cLo (n sl : Int) : Int := mx 0 (n / 100 - sl - 1)
def cHi (n sl : Int) : Int := mn 25000 (n / 100 + sl + 2)
def outAt (r : Rd) (sl : Int) (t : List Int) (i : Nat) : List Int := ((List.range i).map fun k : Nat => cLo (tg t r.a * r.sec) sl + k).filter fun c => isR (withS r c) sl t
/-- All that a reading can show of some tones. -/
def showsL (r : Rd) (sl : Int) (t : List Int) : List Int :=
  if r.kind = 1 then outAt r sl t (cHi (tg t r.a * r.sec) sl - cLo (tg t r.a * r.sec) sl + 1).toNat
  else if r.kind = 2 then [dist (tg t r.a) (tg t r.b) * r.sec / 100] else [if isR r sl t then 1 else 0]
theorem outAt_succ {r : Rd} {sl : Int} {t : List Int} {i : Nat} : outAt r sl t (i + 1) = outAt r sl t i ++ (if isR (withS r (cLo (tg t r.a * r.sec) sl + i)) sl t then [cLo (tg t r.a * r.sec) sl + i] else []) := by
  simp only [outAt, List.range_succ, List.map_append, List.filter_append, List.map_cons, List.map_nil, List.filter_cons, List.filter_nil]
theorem outAt_len {r : Rd} {sl : Int} {t : List Int} {i : Nat} : (outAt r sl t i).length ≤ i := by
  unfold outAt
  exact Nat.le_trans (List.length_filter_le _ _) (by simp)
set_option maxHeartbeats 1000000 in
theorem shows1_p (a b s x y sl : Int) (t : List Int) (hr : okR ⟨1, a, b, s, ⟨x, y⟩⟩) (hsl : 0 ≤ sl ∧ sl ≤ 3) (ht : t.length = 3) (hs : small t) : PureV Try.prog 64 [rdv ⟨1, a, b, s, ⟨x, y⟩⟩ sl, tav t] (tIs.av (showsL ⟨1, a, b, s, ⟨x, y⟩⟩ sl t)) := by
  refine PureV.of_ev (E := Try.E 76 Try.ord64 fs5) (Try.envOK 76 Try.ord64 fs5 fs5_ok) (Plain.ints) Try.kp64 Try.func64 rfl (by kernel_rfl) (by simp [Try.E]) (Callable.of Try.func64 (by kernel_rfl) (by kernel_rfl)) (by kernel_rfl) ?_
  intro σ
  simp only [rdv, tav, if_true]
  obtain ⟨ha, hb, hsec, hx, hy⟩ := hr.2
  simp only at ha hb hsec hx hy
  have hn := mul_le (small_tg hs a) hsec
  obtain ⟨q, hq⟩ : ∃ q, (tg t a * s).tdiv 100 = q := ⟨_, rfl⟩
  have hq2 : q = tg t a * s / 100 := by rw [← hq]; exact Int.tdiv_eq_ediv_of_nonneg hn.1
  obtain ⟨lo, hlo⟩ : ∃ lo, (if 0 < q - sl - 1 then q - sl - 1 else 0) = lo := ⟨_, rfl⟩
  obtain ⟨hi, hhi⟩ : ∃ hi, (if q + sl + 2 < 25000 then q + sl + 2 else 25000) = hi := ⟨_, rfl⟩
  have elo : cLo (tg t a * s) sl = lo := by rw [← hlo, hq2]; rfl
  have ehi : cHi (tg t a * s) sl = hi := by rw [← hhi, hq2]; rfl
  have blo : 0 ≤ lo ∧ lo ≤ 300000 := by rw [← hlo]; split <;> omega
  have bhi : 0 ≤ hi ∧ hi ≤ 25000 := by rw [← hhi]; split <;> omega
  simp -implicitDefEqProofs (maxSteps := 2000000) (disch := omega) only [go_sem, reduceCtorEq, Nat.reduceAdd, Nat.reduceSub, Nat.reduceMul, Nat.reduceLT, Nat.reduceLeDiff, Nat.reduceEqDiff, Nat.reduceBEq, Int.reduceToNat, Int.reduceLT, Int.reduceLE, Int.reduceEq, Int.reduceNeg, Int.reduceAdd, Int.reduceSub, Int.reduceMul, ↓reduceIte, Int.reduceBEq, Int.reduceBNe, hq, hlo, tC_dec]
  refine ARun.ghost 7 1 (sz0 := 0) rfl (by simp [lookA]) ?_
  simp only [ins, ↓reduceIte, List.append_assoc, List.cons_append, List.nil_append, List.length_append, List.length_cons, List.length_nil, Nat.zero_add, Nat.reduceEqDiff, Nat.reduceAdd]
  refine ARun.forJ (Try.envOK 76 Try.ord64 fs5 fs5_ok) (hi - lo + 1).toNat (fun i σ' => ∃ x y j, σ' = σ ++ (.cells (t.map (AV.int .i64)) :: .cells [.int .i64 1, .int .i64 a, .int .i64 b, .int .i64 s, .int .i64 x, .int .i64 y, .int .i64 sl] :: .tail (outAt ⟨1, a, b, s, ⟨x, y⟩⟩ sl t i).length 1 :: j)) (fun i => [(7, .list (.own (σ.length + 2)) 1 ((outAt ⟨1, a, b, s, ⟨x, y⟩⟩ sl t i).map (AV.int .i64))), (8, .int .i64 (lo + i))]) (by kernel_rfl) (by simp [upd, ins, subF, lookA, outAt]) ⟨x, y, [], by simp [outAt]⟩ ?_ ?_
  · rintro i σ' hi' ⟨x', y', j, rfl⟩ ih
    have hokc : okR ⟨1, a, b, s, ⟨lo + i, lo + i⟩⟩ := ⟨hr.1, ha, hb, hsec, by simp only; omega, by simp only; omega⟩
    have hsu := outAt_succ (r := ⟨1, a, b, s, ⟨x, y⟩⟩) (sl := sl) (t := t) (i := i)
    simp only [elo, withS] at hsu
    have hol := outAt_len (r := ⟨1, a, b, s, ⟨x, y⟩⟩) (sl := sl) (t := t) (i := i)
    have hE : ∀ x' y' i, outAt ⟨1, a, b, s, ⟨x', y'⟩⟩ sl t i = outAt ⟨1, a, b, s, ⟨x, y⟩⟩ sl t i := fun _ _ _ => rfl
    simp only [hE]
    cases hb2 : isR ⟨1, a, b, s, ⟨lo + i, lo + i⟩⟩ sl t
    · rw [hb2] at hsu
      simp -implicitDefEqProofs (maxSteps := 2000000) (disch := omega) only [go_sem, reduceCtorEq, Nat.reduceAdd, Nat.reduceSub, Nat.reduceMul, Nat.reduceLT, Nat.reduceLeDiff, Nat.reduceEqDiff, Nat.reduceBEq, Int.reduceToNat, Int.reduceLT, Int.reduceLE, Int.reduceEq, Int.reduceNeg, Int.reduceAdd, Int.reduceSub, Int.reduceMul, ↓reduceIte, Int.reduceBEq, Int.reduceBNe, hq, hlo, hhi, hokc, hs, hb2, tC_dec, decC]
      refine (ih _ ⟨lo + i, lo + i, j, ?_⟩).castS rfl (by simp [upd, ins, subF, lookA, hsu, Int.add_assoc])
      simp [hE, hsu]
    · rw [hb2] at hsu
      simp -implicitDefEqProofs (maxSteps := 2000000) (disch := omega) only [go_sem, reduceCtorEq, Nat.reduceAdd, Nat.reduceSub, Nat.reduceMul, Nat.reduceLT, Nat.reduceLeDiff, Nat.reduceEqDiff, Nat.reduceBEq, Int.reduceToNat, Int.reduceLT, Int.reduceLE, Int.reduceEq, Int.reduceNeg, Int.reduceAdd, Int.reduceSub, Int.reduceMul, ↓reduceIte, Int.reduceBEq, Int.reduceBNe, hq, hlo, hhi, hokc, hs, hb2, tC_dec, decC]
      refine (ih _ ⟨lo + i, lo + i, j, ?_⟩).castS rfl (by simp [upd, ins, subF, lookA, hsu, Int.add_assoc])
      simp [hE, hsu]
  · rintro σ' ⟨x', y', j, rfl⟩
    simp -implicitDefEqProofs (maxSteps := 2000000) (disch := omega) only [go_sem, reduceCtorEq, Nat.reduceAdd, Nat.reduceSub, Nat.reduceMul, Nat.reduceLT, Nat.reduceLeDiff, Nat.reduceEqDiff, Nat.reduceBEq, Int.reduceToNat, Int.reduceLT, Int.reduceLE, Int.reduceEq, Int.reduceNeg, Int.reduceAdd, Int.reduceSub, Int.reduceMul, ↓reduceIte, Int.reduceBEq, Int.reduceBNe, hq, hlo, hhi]
    exact ⟨by simp [showsL, elo, ehi], .inl rfl, .inl rfl⟩
theorem shows2_p (r : Rd) (sl : Int) (t : List Int) (hr : okR r) (hk : r.kind = 2) (ht : t.length = 3) (hs : small t) : PureV Try.prog 64 [.iface 127 r.av, tav t] (tIs.av (showsL r sl t)) := by
  refine PureV.of_ev (E := Try.E 76 Try.ord64 fs5) (Try.envOK 76 Try.ord64 fs5 fs5_ok) (Plain.ints) Try.kp64 Try.func64 rfl (by kernel_rfl) (by simp [Try.E]) (Callable.of Try.func64 (by kernel_rfl) (by kernel_rfl)) (by kernel_rfl) ?_
  intro σ
  obtain ⟨k, a, b, s, x, y⟩ := r
  simp only at hk
  subst hk
  simp only [Rd.av, tav]
  obtain ⟨ha, hb, hsec, hx, hy⟩ := hr.2
  simp only at ha hb hsec hx hy
  have hn := mul_le (dist_le (small_tg hs a) (small_tg hs b)) hsec
  have hq : (dist (tg t a) (tg t b) * s).tdiv 100 = dist (tg t a) (tg t b) * s / 100 := Int.tdiv_eq_ediv_of_nonneg hn.1
  simp -implicitDefEqProofs (maxSteps := 2000000) (disch := omega) only [go_sem, reduceCtorEq, Nat.reduceAdd, Nat.reduceSub, Nat.reduceMul, Nat.reduceLT, Nat.reduceLeDiff, Nat.reduceEqDiff, Nat.reduceBEq, Int.reduceToNat, Int.reduceLT, Int.reduceLE, Int.reduceEq, Int.reduceNeg, Int.reduceAdd, Int.reduceSub, Int.reduceMul, ↓reduceIte, Int.reduceBEq, Int.reduceBNe, hs, hq]
  exact ⟨by simp [showsL], .inl rfl, .inl rfl⟩
theorem shows3_p (r : Rd) (sl : Int) (t : List Int) (hr : okR r) (hsl : 0 ≤ sl ∧ sl ≤ 3) (hk : r.kind = 3) (ht : t.length = 3) (hs : small t) : PureV Try.prog 64 [.iface 128 r.av, tav t] (tIs.av (showsL r sl t)) := by
  refine PureV.of_ev (E := Try.E 76 Try.ord64 fs5) (Try.envOK 76 Try.ord64 fs5 fs5_ok) (Plain.ints) Try.kp64 Try.func64 rfl (by kernel_rfl) (by simp [Try.E]) (Callable.of Try.func64 (by kernel_rfl) (by kernel_rfl)) (by kernel_rfl) ?_
  intro σ
  have hinv := @invoke_is 76 Try.ord64 fs5 (fun _ => ⟨rfl, rfl, rfl⟩) r sl t
  have hrd : rdv r sl = .iface 128 r.av := by simp [rdv, hk]
  rw [hrd] at hinv
  simp only [tav]
  cases hb : isR r sl t
  · simp -implicitDefEqProofs (maxSteps := 2000000) (disch := omega) only [go_sem, reduceCtorEq, Nat.reduceAdd, Nat.reduceSub, Nat.reduceMul, Nat.reduceLT, Nat.reduceLeDiff, Nat.reduceEqDiff, Nat.reduceBEq, Int.reduceToNat, Int.reduceLT, Int.reduceLE, Int.reduceEq, Int.reduceNeg, Int.reduceAdd, Int.reduceSub, Int.reduceMul, ↓reduceIte, Int.reduceBEq, Int.reduceBNe, hinv hr hsl ht hs, hb]
    exact ⟨by simp [showsL, hk, hb], .inl rfl, .inl rfl⟩
  · simp -implicitDefEqProofs (maxSteps := 2000000) (disch := omega) only [go_sem, reduceCtorEq, Nat.reduceAdd, Nat.reduceSub, Nat.reduceMul, Nat.reduceLT, Nat.reduceLeDiff, Nat.reduceEqDiff, Nat.reduceBEq, Int.reduceToNat, Int.reduceLT, Int.reduceLE, Int.reduceEq, Int.reduceNeg, Int.reduceAdd, Int.reduceSub, Int.reduceMul, ↓reduceIte, Int.reduceBEq, Int.reduceBNe, hinv hr hsl ht hs, hb]
    exact ⟨by simp [showsL, hk, hb], .inl rfl, .inl rfl⟩
theorem shows_p (r : Rd) (sl : Int) (t : List Int) (hr : okR r) (hsl : 0 ≤ sl ∧ sl ≤ 3) (ht : t.length = 3) (hs : small t) : PureV Try.prog 64 [rdv r sl, tav t] (tIs.av (showsL r sl t)) := by
  have hk := hr.1
  rcases (by omega : r.kind = 1 ∨ r.kind = 2 ∨ r.kind = 3) with k | k | k
  · obtain ⟨rk, a, b, s, x, y⟩ := r
    simp only at k
    subst k
    exact shows1_p a b s x y sl t hr hsl ht hs
  · have := shows2_p r sl t hr k ht hs
    simpa [rdv, k] using this
  · have := shows3_p r sl t hr hsl k ht hs
    simpa [rdv, k] using this
theorem showsL_len {r : Rd} {sl : Int} {t : List Int} : (showsL r sl t).length ≤ 30001 := by
  unfold showsL
  split
  · refine Nat.le_trans outAt_len ?_
    have h1 : 0 ≤ cLo (tg t r.a * r.sec) sl := by unfold cLo mx; split <;> omega
    have h2 : cHi (tg t r.a * r.sec) sl ≤ 25000 := by unfold cHi mn; split <;> omega
    omega
  · split <;> simp
end Go.Proofs
