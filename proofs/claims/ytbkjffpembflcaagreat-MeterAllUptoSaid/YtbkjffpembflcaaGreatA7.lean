/- Texts of a proof: lemmas. -/
import Derived.Test.YtbkjffpembflcaaGreatA6
set_option linter.unusedSimpArgs false
set_option linter.unusedVariables false
set_option maxRecDepth 100000
namespace Go.Proofs
open Go Go.Mu

/-- A verdict: how many are so, of how many. -/
def verd (so n : Nat) : Int := if so = n then 1 else if so = 0 then 2 else 3
theorem filter_take_succ {α : Type} {f : α → Bool} {l : List α} {i : Nat} (h : i < l.length) : ((l.take (i + 1)).filter f).length = ((l.take i).filter f).length + (if f l[i] then 1 else 0) := by
  rw [List.take_succ_eq_append_getElem h, List.filter_append, List.length_append]
  by_cases hf : f l[i] = true
  · simp [List.filter_cons, hf]
  · simp [List.filter_cons, hf]
theorem verdict_c {g : FuncId} {p q : List AV} {σ : List AObj} (f : List Int → Bool) (l : List (List Int)) (hl2 : l.length ≤ 4294967296) (h3 : ∀ t ∈ l, t.length = 3) (hn : ∀ t ∈ l, ClV Tryz.prog g p q σ [tav t] (.bool (f t))) (Q : AV → List AObj → Prop) (h : Q (.int .i64 (verd (l.filter f).length l.length)) σ) :
    ACalls Tryz.prog 69 [tavs l, .fn (.func g) p q] σ Q := by
  refine ACalls.clean_ev (E := Tryz.E 27 (fun _ => ([], [])) fs0) (Tryz.envOK 27 (fun _ => ([], [])) fs0 fs0_ok) (.int _ _) (h) Tryz.kp69 Tryz.func69 rfl (by kernel_rfl) (by simp [Tryz.E]) (Callable.of Tryz.func69 (by kernel_rfl) (by kernel_rfl)) (by kernel_rfl) ?_
  simp only [tavs]
  simp -implicitDefEqProofs (maxSteps := 2000000) (disch := omega) only [go_sem, reduceCtorEq, Nat.reduceAdd, Nat.reduceSub, Nat.reduceMul, Nat.reduceLT, Nat.reduceLeDiff, Nat.reduceEqDiff, Nat.reduceBEq, Int.reduceToNat, Int.reduceLT, Int.reduceLE, Int.reduceEq, Int.reduceNeg, Int.reduceAdd, Int.reduceSub, Int.reduceMul, ↓reduceIte, Int.reduceBEq, Int.reduceBNe, tav]
  refine ARun.forS (Tryz.envOK 27 (fun _ => ([], [])) fs0 fs0_ok) l.length (fun _ => True) (fun i => [(5, .int .i64 (((l.take i).filter f).length : Int)), (10, .int .i64 i)]) (fun i j => σ ++ j) [] (by kernel_rfl) (by simp) (by simp [upd, ins, subF, lookA]) trivial ?_ ?_
  · intro i j hi _ ih
    have hmi : l[i] ∈ l := List.getElem_mem hi
    have h3i := h3 _ hmi
    have hfs := filter_take_succ (f := f) hi
    have hle : ((l.take i).filter f).length ≤ i := Nat.le_trans (List.length_filter_le _ _) (List.length_take_le _ _)
    simp -implicitDefEqProofs (maxSteps := 2000000) (disch := omega) only [go_sem, reduceCtorEq, Nat.reduceAdd, Nat.reduceSub, Nat.reduceMul, Nat.reduceLT, Nat.reduceLeDiff, Nat.reduceEqDiff, Nat.reduceBEq, Int.reduceToNat, Int.reduceLT, Int.reduceLE, Int.reduceEq, Int.reduceNeg, Int.reduceAdd, Int.reduceSub, Int.reduceMul, ↓reduceIte, Int.reduceBEq, Int.reduceBNe, tav]
    refine (hn _ hmi).app1 ?_
    cases hb : f l[i]
    · rw [hb] at hfs
      simp -implicitDefEqProofs (maxSteps := 2000000) (disch := omega) only [go_sem, reduceCtorEq, Nat.reduceAdd, Nat.reduceSub, Nat.reduceMul, Nat.reduceLT, Nat.reduceLeDiff, Nat.reduceEqDiff, Nat.reduceBEq, Int.reduceToNat, Int.reduceLT, Int.reduceLE, Int.reduceEq, Int.reduceNeg, Int.reduceAdd, Int.reduceSub, Int.reduceMul, ↓reduceIte, Int.reduceBEq, Int.reduceBNe, tav]
      refine (ih trivial (j ++ [_])).castS rfl (by simp [upd, ins, subF, lookA, tav, hfs])
    · rw [hb] at hfs
      simp -implicitDefEqProofs (maxSteps := 2000000) (disch := omega) only [go_sem, reduceCtorEq, Nat.reduceAdd, Nat.reduceSub, Nat.reduceMul, Nat.reduceLT, Nat.reduceLeDiff, Nat.reduceEqDiff, Nat.reduceBEq, Int.reduceToNat, Int.reduceLT, Int.reduceLE, Int.reduceEq, Int.reduceNeg, Int.reduceAdd, Int.reduceSub, Int.reduceMul, ↓reduceIte, Int.reduceBEq, Int.reduceBNe, tav]
      refine (ih trivial (j ++ [_])).castS rfl (by simp [upd, ins, subF, lookA, tav, hfs])
  · intro j _
    rw [List.take_length]
    have hle : (l.filter f).length ≤ l.length := List.length_filter_le _ _
    simp -implicitDefEqProofs (maxSteps := 2000000) (disch := omega) only [go_sem, reduceCtorEq, Nat.reduceAdd, Nat.reduceSub, Nat.reduceMul, Nat.reduceLT, Nat.reduceLeDiff, Nat.reduceEqDiff, Nat.reduceBEq, Int.reduceToNat, Int.reduceLT, Int.reduceLE, Int.reduceEq, Int.reduceNeg, Int.reduceAdd, Int.reduceSub, Int.reduceMul, ↓reduceIte, Int.reduceBEq, Int.reduceBNe, tav]
    refine ⟨fun q1 => ?_, fun q1 => ⟨fun q2 => ?_, fun q2 => ?_⟩⟩ <;> simp only [verd] <;> grind

theorem tones1_v {σ : List AObj} {r : Nat} {x : Int} (hg : hget σ r = some (.cells [.int .i64 x])) (hx : 0 ≤ x ∧ x ≤ 2) {t : List Int} (ht : t.length = 3) : ClV Tryz.prog 54 [] [.ptr r 0] σ [tav t] (.int .i64 (tg t x)) := by
  intro σ' hl hs Q hq
  have hg' : ∀ l, hget (σ' ++ l) r = some (.cells [.int .i64 x]) := fun l => by rw [hget_app (by have := hget_lt hg; omega), hs _ (hget_lt hg)]; exact hg
  simp only [List.nil_append, List.cons_append]
  refine ACalls.clean_ev (E := Tryz.E 7 (fun _ => ([], [])) fs0) (Tryz.envOK 7 (fun _ => ([], [])) fs0 fs0_ok) (.int _ _) (hq) Tryz.kp54 Tryz.func54 rfl (by kernel_rfl) (by simp [Tryz.E]) (Callable.of Tryz.func54 (by kernel_rfl) (by kernel_rfl)) (by kernel_rfl) ?_
  simp only [tav]
  simp -implicitDefEqProofs (maxSteps := 2000000) (disch := omega) only [go_sem, reduceCtorEq, Nat.reduceAdd, Nat.reduceSub, Nat.reduceMul, Nat.reduceLT, Nat.reduceLeDiff, Nat.reduceEqDiff, Nat.reduceBEq, Int.reduceToNat, Int.reduceLT, Int.reduceLE, Int.reduceEq, Int.reduceNeg, Int.reduceAdd, Int.reduceSub, Int.reduceMul, ↓reduceIte, Int.reduceBEq, Int.reduceBNe, hg']
theorem gate1_v {σ : List AObj} {r : Nat} {x : Int} (hg : hget σ r = some (.cells [.int .i64 x])) (hx : 0 ≤ x ∧ x ≤ 2) {t : List Int} (ht : t.length = 3) : ClV Tryz.prog 81 [] [.ptr r 0] σ [tav t] (.int .i64 (tg t x)) := by
  intro σ' hl hs Q hq
  have hg' : ∀ l, hget (σ' ++ l) r = some (.cells [.int .i64 x]) := fun l => by rw [hget_app (by have := hget_lt hg; omega), hs _ (hget_lt hg)]; exact hg
  simp only [List.nil_append, List.cons_append]
  refine ACalls.clean_ev (E := Tryz.E 7 (fun _ => ([], [])) fs0) (Tryz.envOK 7 (fun _ => ([], [])) fs0 fs0_ok) (.int _ _) (hq) Tryz.kp81 Tryz.func81 rfl (by kernel_rfl) (by simp [Tryz.E]) (Callable.of Tryz.func81 (by kernel_rfl) (by kernel_rfl)) (by kernel_rfl) ?_
  simp only [tav]
  simp -implicitDefEqProofs (maxSteps := 2000000) (disch := omega) only [go_sem, reduceCtorEq, Nat.reduceAdd, Nat.reduceSub, Nat.reduceMul, Nat.reduceLT, Nat.reduceLeDiff, Nat.reduceEqDiff, Nat.reduceBEq, Int.reduceToNat, Int.reduceLT, Int.reduceLE, Int.reduceEq, Int.reduceNeg, Int.reduceAdd, Int.reduceSub, Int.reduceMul, ↓reduceIte, Int.reduceBEq, Int.reduceBNe, hg']
theorem higher1_v {σ : List AObj} {ra rb : Nat} {a b : Int} (hg : hget σ ra = some (.cells [.int .i64 a])) (hh : hget σ rb = some (.cells [.int .i64 b])) (ha : 0 ≤ a ∧ a ≤ 2) (hb : 0 ≤ b ∧ b ≤ 2) {t : List Int} (ht : t.length = 3) : ClV Tryz.prog 72 [] [.ptr ra 0, .ptr rb 0] σ [tav t] (.bool (decide (tg t b < tg t a))) := by
  intro σ' hl hs Q hq
  have hg' : ∀ l, hget (σ' ++ l) ra = some (.cells [.int .i64 a]) := fun l => by rw [hget_app (by have := hget_lt hg; omega), hs _ (hget_lt hg)]; exact hg
  have hh' : ∀ l, hget (σ' ++ l) rb = some (.cells [.int .i64 b]) := fun l => by rw [hget_app (by have := hget_lt hh; omega), hs _ (hget_lt hh)]; exact hh
  simp only [List.nil_append, List.cons_append]
  refine ACalls.clean_ev (E := Tryz.E 12 Tryz.ord72 fs0) (Tryz.envOK 12 Tryz.ord72 fs0 fs0_ok) (.bool _) (hq) Tryz.kp72 Tryz.func72 rfl (by kernel_rfl) (by simp [Tryz.E]) (Callable.of Tryz.func72 (by kernel_rfl) (by kernel_rfl)) (by kernel_rfl) ?_
  simp only [tav]
  simp -implicitDefEqProofs (maxSteps := 2000000) (disch := omega) only [go_sem, reduceCtorEq, Nat.reduceAdd, Nat.reduceSub, Nat.reduceMul, Nat.reduceLT, Nat.reduceLeDiff, Nat.reduceEqDiff, Nat.reduceBEq, Int.reduceToNat, Int.reduceLT, Int.reduceLE, Int.reduceEq, Int.reduceNeg, Int.reduceAdd, Int.reduceSub, Int.reduceMul, ↓reduceIte, Int.reduceBEq, Int.reduceBNe, hg', hh']
  refine ⟨fun h => ?_, fun h => ?_⟩ <;> simp [h]
theorem knownL_ok {e : Ear} (h : (knownL e).2 = 0) : ck e = 0 ∧ truthsL e ≠ [] ∧ knownL e = (truthsL e, 0) := by
  unfold knownL at h ⊢
  split at h
  · rename_i hc; exact absurd h hc
  · rename_i hc
    split at h
    · simp at h
    · rename_i hn
      refine ⟨by simpa using hc, hn, by rw [if_neg hc, if_neg hn]⟩
/-- The ranges of all tones. -/
def tonesL (e : Ear) : List Rng × Int := if (knownL e).2 = 0 then ((List.range e.tones.length).map fun (i : Nat) => spanL (fun t => tg t i) (truthsL e), 0) else ([], (knownL e).2)
theorem tonesL_p {p : List Rng × Int} : Plain (.tup [.list .no 2 (p.1.map Rng.av), .int .i64 p.2]) := .tup (by simp; exact ⟨.map fun x _ => Rng.plain x, .int⟩)
theorem tones_p (e : Ear) (h1 : e.tones.length ≤ 4294967296) (h2 : e.rds.length ≤ 4294967296) : PureV Tryz.prog 14 [e.av] (.tup [.list .no 2 ((tonesL e).1.map Rng.av), .int .i64 (tonesL e).2]) := by
  refine PureV.of_ev (E := Tryz.E 30 (fun _ => ([], [])) fs8) (Tryz.envOK 30 (fun _ => ([], [])) fs8 fs8_ok) (tonesL_p) Tryz.kp14 Tryz.func14 rfl (by kernel_rfl) (by simp [Tryz.E]) (Callable.of Tryz.func14 (by kernel_rfl) (by kernel_rfl)) (by kernel_rfl) ?_
  intro σ
  simp only [Ear.av]
  by_cases hk : (knownL e).2 = 0
  · obtain ⟨hc, hn, hke⟩ := knownL_ok hk
    have he := okE_of_ck hc
    have hlen := he.len
    have htl := truthsL_len he
    simp -implicitDefEqProofs (maxSteps := 2000000) (disch := omega) only [go_sem, reduceCtorEq, Nat.reduceAdd, Nat.reduceSub, Nat.reduceMul, Nat.reduceLT, Nat.reduceLeDiff, Nat.reduceEqDiff, Nat.reduceBEq, Int.reduceToNat, Int.reduceLT, Int.reduceLE, Int.reduceEq, Int.reduceNeg, Int.reduceAdd, Int.reduceSub, Int.reduceMul, ↓reduceIte, Int.reduceBEq, Int.reduceBNe, hke, tavs]
    refine ARun.ghost 6 2 (sz0 := 0) rfl (by simp [lookA]) ?_
    simp only [ins, ↓reduceIte, List.append_assoc, List.cons_append, List.nil_append, List.length_append, List.length_cons, List.length_nil, Nat.zero_add, Nat.reduceEqDiff]
    refine ARun.forS (Tryz.envOK 30 (fun _ => ([], [])) fs8 fs8_ok) e.tones.length (fun _ => True) (fun i => [(6, .list (.own (σ.length + 1)) 2 (((List.range i).map fun (i : Nat) => spanL (fun t => tg t i) (truthsL e)).map Rng.av)), (19, .int .i64 i)]) (fun i j => σ ++ (.cells e.cells :: .tail i 2 :: j)) [] (by kernel_rfl) (by simp [Ear.cells]) (by simp [upd, ins, subF, lookA]) trivial ?_ ?_
    · intro i j hi _ ih
      simp -implicitDefEqProofs (maxSteps := 2000000) (disch := omega) only [go_sem, reduceCtorEq, Nat.reduceAdd, Nat.reduceSub, Nat.reduceMul, Nat.reduceLT, Nat.reduceLeDiff, Nat.reduceEqDiff, Nat.reduceBEq, Int.reduceToNat, Int.reduceLT, Int.reduceLE, Int.reduceEq, Int.reduceNeg, Int.reduceAdd, Int.reduceSub, Int.reduceMul, ↓reduceIte, Int.reduceBEq, Int.reduceBNe, Ear.cells]
      refine span_c (fun t => tg t i) (truthsL e) hn (by omega) (fun t ht => (truthsL_ok he t ht).1) (fun t ht => tones1_v (x := i) ?_ (by omega) (truthsL_ok he t ht).1) _ ?_
      · rw [hget_at]; simp
      · have hfl : ∀ x : Rng, x.av.flat = true := fun _ => rfl
        have hcl : ∀ x : Rng, x.av.cells.length = 2 := fun _ => rfl
        have hrl : (List.range i).length = i := List.length_range
        simp -implicitDefEqProofs (maxSteps := 2000000) (disch := omega) only [go_sem, reduceCtorEq, Nat.reduceAdd, Nat.reduceSub, Nat.reduceMul, Nat.reduceLT, Nat.reduceLeDiff, Nat.reduceEqDiff, Nat.reduceBEq, Int.reduceToNat, Int.reduceLT, Int.reduceLE, Int.reduceEq, Int.reduceNeg, Int.reduceAdd, Int.reduceSub, Int.reduceMul, ↓reduceIte, Int.reduceBEq, Int.reduceBNe, Ear.cells, hfl, hcl, hrl]
        refine (ih trivial (j ++ [_])).castS rfl (by simp [upd, ins, subF, lookA, List.range_succ])
    · intro j _
      simp -implicitDefEqProofs (maxSteps := 2000000) (disch := omega) only [go_sem, reduceCtorEq, Nat.reduceAdd, Nat.reduceSub, Nat.reduceMul, Nat.reduceLT, Nat.reduceLeDiff, Nat.reduceEqDiff, Nat.reduceBEq, Int.reduceToNat, Int.reduceLT, Int.reduceLE, Int.reduceEq, Int.reduceNeg, Int.reduceAdd, Int.reduceSub, Int.reduceMul, ↓reduceIte, Int.reduceBEq, Int.reduceBNe, Ear.cells]
      simp [tonesL, hk]
  · have hk' : ¬ (knownL ⟨e.slack, e.tones, e.rds⟩).2 = 0 := hk
    simp -implicitDefEqProofs (maxSteps := 2000000) (disch := omega) only [go_sem, reduceCtorEq, Nat.reduceAdd, Nat.reduceSub, Nat.reduceMul, Nat.reduceLT, Nat.reduceLeDiff, Nat.reduceEqDiff, Nat.reduceBEq, Int.reduceToNat, Int.reduceLT, Int.reduceLE, Int.reduceEq, Int.reduceNeg, Int.reduceAdd, Int.reduceSub, Int.reduceMul, ↓reduceIte, Int.reduceBEq, Int.reduceBNe, hk']
    simp [tonesL, hk]
def tones_s := spec1 tEar fun e => if e.tones.length ≤ 4294967296 ∧ e.rds.length ≤ 4294967296 then some (.tup [.list .no 2 ((tonesL e).1.map Rng.av), .int .i64 (tonesL e).2]) else none
theorem tones_ok : ∀ xs v, tones_s xs = some v → PureV Tryz.prog 14 xs v :=
  spec1_ok fun e v h => by have h := someIf h; rw [← h.2]; exact tones_p e h.1.1 h.1.2

theorem askL_ok {e : Ear} {w : Int} (h : (askL e w).2 = 0) : ck e = 0 ∧ w = 0 ∧ truthsL e ≠ [] ∧ askL e w = (truthsL e, 0) := by
  unfold askL at h ⊢
  split at h
  · rename_i hc; exact absurd h hc
  · rename_i hc
    split at h
    · rename_i hw; exact absurd h hw
    · rename_i hw
      obtain ⟨h1, h2, h3⟩ := knownL_ok h
      exact ⟨h1, by simpa using hw, h2, by rw [if_neg hc, if_neg hw, h3]⟩
theorem ckTwo_ok {m : Nat} {a b : Int} (hm : m ≤ 3) (h : ckTwo m a b = 0) : (0 ≤ a ∧ a ≤ 2) ∧ (0 ≤ b ∧ b ≤ 2) ∧ a ≠ b := by
  simp only [ckTwo] at h; grind
/-- Whether one tongue is higher. -/
def higherL (e : Ear) (a b : Int) : Int × Int :=
  if (askL e (ckTwo e.tones.length a b)).2 = 0 then (verd ((truthsL e).filter fun t => decide (tg t b < tg t a)).length (truthsL e).length, 0) else (0, (askL e (ckTwo e.tones.length a b)).2)
theorem higher_m (e : Ear) (a b : Int) (h1 : e.tones.length ≤ 4294967296) (h2 : e.rds.length ≤ 4294967296) : PureV Tryz.prog 34 [e.av, .int .i64 a, .int .i64 b] (.tup [.int .i64 (higherL e a b).1, .int .i64 (higherL e a b).2]) := by
  refine PureV.of_ev (E := Tryz.E 25 Tryz.ord34 fs8) (Tryz.envOK 25 Tryz.ord34 fs8 fs8_ok) (.tup (by simp; exact ⟨.int, .int⟩)) Tryz.kp34 Tryz.func34 rfl (by kernel_rfl) (by simp [Tryz.E]) (Callable.of Tryz.func34 (by kernel_rfl) (by kernel_rfl)) (by kernel_rfl) ?_
  intro σ
  simp only [Ear.av]
  by_cases hk : (askL e (ckTwo e.tones.length a b)).2 = 0
  · obtain ⟨hc, hw, hn, hke⟩ := askL_ok hk
    have he := okE_of_ck hc
    obtain ⟨ha, hb, _⟩ := ckTwo_ok he.len hw
    have htl := truthsL_len he
    simp -implicitDefEqProofs (maxSteps := 2000000) (disch := omega) only [go_sem, reduceCtorEq, Nat.reduceAdd, Nat.reduceSub, Nat.reduceMul, Nat.reduceLT, Nat.reduceLeDiff, Nat.reduceEqDiff, Nat.reduceBEq, Int.reduceToNat, Int.reduceLT, Int.reduceLE, Int.reduceEq, Int.reduceNeg, Int.reduceAdd, Int.reduceSub, Int.reduceMul, ↓reduceIte, Int.reduceBEq, Int.reduceBNe, hke, tavs]
    refine verdict_c (fun t => decide (tg t b < tg t a)) (truthsL e) (by omega) (fun t ht => (truthsL_ok he t ht).1) (fun t ht => higher1_v (a := a) (b := b) (by simp [hget_at]) (by simp [hget_at]) ha hb (truthsL_ok he t ht).1) _ ?_
    simp -implicitDefEqProofs (maxSteps := 2000000) (disch := omega) only [go_sem, reduceCtorEq, Nat.reduceAdd, Nat.reduceSub, Nat.reduceMul, Nat.reduceLT, Nat.reduceLeDiff, Nat.reduceEqDiff, Nat.reduceBEq, Int.reduceToNat, Int.reduceLT, Int.reduceLE, Int.reduceEq, Int.reduceNeg, Int.reduceAdd, Int.reduceSub, Int.reduceMul, ↓reduceIte, Int.reduceBEq, Int.reduceBNe, hke, tavs]
    simp [higherL, hk]
  · have hk' : ¬ (askL ⟨e.slack, e.tones, e.rds⟩ (ckTwo e.tones.length a b)).2 = 0 := hk
    simp -implicitDefEqProofs (maxSteps := 2000000) (disch := omega) only [go_sem, reduceCtorEq, Nat.reduceAdd, Nat.reduceSub, Nat.reduceMul, Nat.reduceLT, Nat.reduceLeDiff, Nat.reduceEqDiff, Nat.reduceBEq, Int.reduceToNat, Int.reduceLT, Int.reduceLE, Int.reduceEq, Int.reduceNeg, Int.reduceAdd, Int.reduceSub, Int.reduceMul, ↓reduceIte, Int.reduceBEq, Int.reduceBNe, hk']
    simp [higherL, hk]
def higher_m_s := spec3 tEar tI tI fun e a b => if e.tones.length ≤ 4294967296 ∧ e.rds.length ≤ 4294967296 then some (.tup [.int .i64 (higherL e a b).1, .int .i64 (higherL e a b).2]) else none
theorem higher_m_ok : ∀ xs v, higher_m_s xs = some v → PureV Tryz.prog 34 xs v :=
  spec3_ok fun e a b v h => by have h := someIf h; rw [← h.2]; exact higher_m e a b h.1.1 h.1.2
def fs9 (f : FuncId) (xs : List AV) : Option AV := if f = 14 then tones_s xs else if f = 34 then higher_m_s xs else fs8 f xs
theorem fs9_ok : ∀ f xs v, fs9 f xs = some v → PureV Tryz.prog f xs v := by
  intro f xs v h
  unfold fs9 at h
  split at h
  · rename_i e; subst e; exact tones_ok _ _ h
  split at h
  · rename_i e; subst e; exact higher_m_ok _ _ h
  exact fs8_ok _ _ _ h
attribute [go_sem] fs9 tones_s higher_m_s
end Go.Proofs
