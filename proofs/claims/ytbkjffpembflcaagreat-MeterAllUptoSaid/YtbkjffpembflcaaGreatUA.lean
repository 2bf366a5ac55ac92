/- Texts of a proof: lemmas. -/
import Derived.Test.YtbkjffpembflcaaGreatBC
set_option linter.unusedSimpArgs false
set_option linter.unusedVariables false
set_option maxRecDepth 100000
namespace Go.Proofs
open Go Go.Mu

/-- A slot's list bears no mark. -/
theorem ARun.slotNo {E : Env} {ro : Option Nat} {todo : List Item} {kp : Nat → Bool} {tm sl : List (Nat × AV)} {σ : List AObj} {Q : Post} (d : Nat) {t : Tok} {sz : Nat} {xs : List AV} (hd : kp d = true) (hl : lookA sl d = some (.list t sz xs))
    (h : ARun E ro todo ⟨kp, [], ins sl d (.list .no sz xs)⟩ σ Q) : ARun E ro todo ⟨kp, tm, sl⟩ σ Q := by
  refine h.mind fun K w tmps hR hF => ⟨K, hR, ⟨hF.1, fun t' v hv => ?_⟩, .refl _ _ _⟩
  have hv' : (if kp t' = true then lookA (ins sl d (.list .no sz xs)) t' else lookA [] t') = some v := hv
  by_cases hk : kp t' = true
  · rw [if_pos hk, lookA_ins] at hv'
    by_cases e : d = t'
    · subst e
      rw [if_pos rfl] at hv'; simp at hv'; subst hv'
      obtain ⟨c, k1, k2⟩ := hF.2 d (.list t sz xs) (by show (if kp d = true then lookA sl d else lookA tm d) = _; rw [if_pos hk]; exact hl)
      exact ⟨c, k1, Weak.no _ _ _ k2⟩
    · rw [if_neg e] at hv'
      exact hF.2 t' v (by show (if kp t' = true then lookA sl t' else lookA tm t') = _; rw [if_pos hk]; exact hv')
  · rw [if_neg hk] at hv'; cases hv'
theorem lapart_p (a b : Int) (ha : 0 ≤ a ∧ a ≤ 1000000) (hb : 0 ≤ b ∧ b ≤ 1000000) : PureV Tryz.prog 33 [.int .i64 a, .int .i64 b] (.int .i64 (dist a b)) := by
  refine PureV.of_ev (E := Tryz.E 12 (fun _ => ([], [])) fs0) (Tryz.envOK 12 (fun _ => ([], [])) fs0 fs0_ok) (.int) Tryz.kp33 Tryz.func33 rfl (by kernel_rfl) (by simp [Tryz.E]) (Callable.of Tryz.func33 (by kernel_rfl) (by kernel_rfl)) (by kernel_rfl) ?_
  intro σ
  simp -implicitDefEqProofs (maxSteps := 2000000) (disch := omega) only [go_sem, reduceCtorEq, Nat.reduceAdd, Nat.reduceSub, Nat.reduceMul, Nat.reduceLT, Nat.reduceLeDiff, Nat.reduceEqDiff, Nat.reduceBEq, Int.reduceToNat, Int.reduceLT, Int.reduceLE, Int.reduceEq, Int.reduceNeg, Int.reduceAdd, Int.reduceSub, Int.reduceMul, ↓reduceIte, Int.reduceBEq, Int.reduceBNe]
  simp only [dist]; grind
def lapart_s := spec2 tI tI fun a b => if (0 ≤ a ∧ a ≤ 1000000) ∧ (0 ≤ b ∧ b ≤ 1000000) then some (.int .i64 (dist a b)) else none
theorem lapart_ok : ∀ xs v, lapart_s xs = some v → PureV Tryz.prog 33 xs v :=
  spec2_ok fun a b v h => by have h := someIf h; rw [← h.2]; exact lapart_p a b h.1.1 h.1.2
theorem In_p (w : Rng) (n : Int) : PureV Tryz.prog 30 [w.av, .int .i64 n] (.bool (decide (w.lo ≤ n ∧ n ≤ w.hi))) := by
  refine PureV.of_ev (E := Tryz.E 15 (fun _ => ([], [])) fs0) (Tryz.envOK 15 (fun _ => ([], [])) fs0 fs0_ok) (.bool) Tryz.kp30 Tryz.func30 rfl (by kernel_rfl) (by simp [Tryz.E]) (Callable.of Tryz.func30 (by kernel_rfl) (by kernel_rfl)) (by kernel_rfl) ?_
  intro σ
  obtain ⟨lo, hi⟩ := w
  simp only [Rng.av]
  simp -implicitDefEqProofs (maxSteps := 2000000) (disch := omega) only [go_sem, reduceCtorEq, Nat.reduceAdd, Nat.reduceSub, Nat.reduceMul, Nat.reduceLT, Nat.reduceLeDiff, Nat.reduceEqDiff, Nat.reduceBEq, Int.reduceToNat, Int.reduceLT, Int.reduceLE, Int.reduceEq, Int.reduceNeg, Int.reduceAdd, Int.reduceSub, Int.reduceMul, ↓reduceIte, Int.reduceBEq, Int.reduceBNe]
  refine ⟨fun h => ⟨fun h2 => ?_, fun h2 => ?_⟩, fun h => ?_⟩ <;> simp [h, *] <;> omega
def In_s := spec2 tRng tI fun w n => some (.bool (decide (w.lo ≤ n ∧ n ≤ w.hi)))
theorem In_ok : ∀ xs v, In_s xs = some v → PureV Tryz.prog 30 xs v :=
  spec2_ok fun w n v h => by simp only [Option.some.injEq] at h; rw [← h]; exact In_p w n
def fs150 (f : FuncId) (xs : List AV) : Option AV := if f = 33 then lapart_s xs else if f = 30 then In_s xs else fs111 f xs
theorem fs150_ok : ∀ f xs v, fs150 f xs = some v → PureV Tryz.prog f xs v := by
  intro f xs v h
  unfold fs150 at h
  split at h
  · rename_i e; subst e; exact lapart_ok _ _ h
  split at h
  · rename_i e; subst e; exact In_ok _ _ h
  exact fs111_ok _ _ _ h
attribute [go_sem] fs150 lapart_s In_s
set_option maxHeartbeats 4000000 in
theorem lfits_p (e : Ear) (T : List Int) (hc : ck e = 0) (hT : T.length = e.tones.length) (hs : small T) : PureV Tryz.prog 67 [e.av, .list .no 1 (T.map (.int .i64))] (.bool (e.rds.all fun r => isR r e.slack T)) := by
  refine PureV.of_ev (E := Tryz.E 100 Tryz.ord67 fs150) (Tryz.envOK 100 Tryz.ord67 fs150 fs150_ok) (.bool) Tryz.kp67 Tryz.func67 rfl (by kernel_rfl) (by simp [Tryz.E]) (Callable.of Tryz.func67 (by kernel_rfl) (by kernel_rfl)) (by kernel_rfl) ?_
  intro σ
  have he := okE_of_ck hc
  have hrd := ck_rd hc
  have hlen := he.len
  have hrl := he.rl
  have hsl := he.sl
  obtain ⟨sl, ts, rs⟩ := e
  simp only at hT hrd hlen hrl hsl
  simp only [Ear.av]
  simp -implicitDefEqProofs (maxSteps := 2000000) (disch := omega) only [go_sem, reduceCtorEq, Nat.reduceAdd, Nat.reduceSub, Nat.reduceMul, Nat.reduceLT, Nat.reduceLeDiff, Nat.reduceEqDiff, Nat.reduceBEq, Int.reduceToNat, Int.reduceLT, Int.reduceLE, Int.reduceEq, Int.reduceNeg, Int.reduceAdd, Int.reduceSub, Int.reduceMul, ↓reduceIte, Int.reduceBEq, Int.reduceBNe]
  refine ARun.forS (Tryz.envOK 100 Tryz.ord67 fs150 fs150_ok) rs.length (fun i => ((rs.drop i).all fun r => isR r sl T) = rs.all fun r => isR r sl T) (fun i => [(5, .int .i64 i)]) (fun _ j => σ ++ (.cells [.int .i64 sl, .list .no 2 (ts.map Rng.av), .list .no 6 (rs.map Rd.av)] :: j)) [] (by kernel_rfl) rfl (by simp [upd, ins, subF, lookA]) rfl ?_ ?_
  · intro i j hi hp ih
    have hck := hrd _ (List.getElem_mem hi)
    have hok : okR rs[i] := he.rd _ (List.getElem_mem hi)
    obtain ⟨x1, x2⟩ := ckR_idx hck
    rw [← hT] at x1 x2
    have hri : idx (rs.map Rd.av) (i : Int) = some rs[i].av := by rw [idx_nat hi]
    rw [drop_cons hi, List.all_cons] at hp
    obtain ⟨y1, y2, y3, y4, y5, y6⟩ := hok
    have hra : idx (T.map (AV.int .i64)) rs[i].a = some (.int .i64 (tg T rs[i].a)) := idx_tg y2.1 x1
    have hb0 : rs[i].kind = 1 → rs[i].b = 0 := fun h => by simp only [ckR] at hck; grind
    have hbT : rs[i].b < T.length := by
      by_cases h : rs[i].kind = 1
      · rw [hb0 h]; omega
      · exact x2 h
    have hrb : idx (T.map (AV.int .i64)) rs[i].b = some (.int .i64 (tg T rs[i].b)) := idx_tg y3.1 hbT
    have hta := small_tg hs rs[i].a
    have htb := small_tg hs rs[i].b
    have hm := mul_le hta y4
    have hm2 := mul_le (dist_le hta htb) y4
    have hwr : IntKind.i64.wrap (tg T rs[i].a * rs[i].sec) = tg T rs[i].a * rs[i].sec := wrap64 (by omega) (by omega)
    have hwr2 : IntKind.i64.wrap (dist (tg T rs[i].a) (tg T rs[i].b) * rs[i].sec) = dist (tg T rs[i].a) (tg T rs[i].b) * rs[i].sec := wrap64 (by omega) (by omega)
    have hisR : isR rs[i] sl T = (if rs[i].kind = 1 then decide (100 * (rs[i].shown.lo - 1 - sl) < tg T rs[i].a * rs[i].sec ∧ tg T rs[i].a * rs[i].sec < 100 * (rs[i].shown.hi + 1 + sl))
        else if rs[i].kind = 2 then decide (100 * rs[i].shown.lo ≤ dist (tg T rs[i].a) (tg T rs[i].b) * rs[i].sec ∧ dist (tg T rs[i].a) (tg T rs[i].b) * rs[i].sec ≤ 100 * rs[i].shown.hi)
        else decide (tg T rs[i].b < tg T rs[i].a)) := rfl
    generalize isR rs[i] sl T = b at hp hisR
    clear hck x1 x2 hrd he hc hb0 hbT hs
    generalize tg T rs[i].a = va at hra hta hm hm2 hwr hwr2 hisR
    generalize tg T rs[i].b = vb at hrb htb hm2 hwr2 hisR
    generalize rs[i] = y at hri hra hrb y1 y2 y3 y4 y5 y6 hm hm2 hwr hwr2 hisR
    obtain ⟨yk, ya, yb, ys, ⟨yl, yh⟩⟩ := y
    simp only at hra hrb y1 y2 y3 y4 y5 y6 hm hm2 hwr hwr2 hisR
    simp only [Rd.av] at hri
    by_cases k1 : yk = 1
    · subst k1
      rw [if_pos rfl] at hisR
      cases b
      · have hno : ¬ (100 * (yl - 1 - sl) < va * ys ∧ va * ys < 100 * (yh + 1 + sl)) := of_decide_eq_false hisR.symm
        rw [Bool.false_and] at hp
        rw [← hp]
        rcases (by omega : ¬ (-100 * (1 + sl) < va * ys - 100 * yl) ∨ (-100 * (1 + sl) < va * ys - 100 * yl ∧ ¬ (va * ys - 100 * yh < 100 * (1 + sl)))) with h | ⟨h, h'⟩
        · clear hno hisR hm2 hwr2
          simp -implicitDefEqProofs (maxSteps := 2000000) (disch := omega) only [go_sem, reduceCtorEq, Nat.reduceAdd, Nat.reduceSub, Nat.reduceMul, Nat.reduceLT, Nat.reduceLeDiff, Nat.reduceEqDiff, Nat.reduceBEq, Int.reduceToNat, Int.reduceLT, Int.reduceLE, Int.reduceEq, Int.reduceNeg, Int.reduceAdd, Int.reduceSub, Int.reduceMul, ↓reduceIte, Int.reduceBEq, Int.reduceBNe, hri, hra, hrb, hwr]
        · clear hno hisR hm2 hwr2
          simp -implicitDefEqProofs (maxSteps := 2000000) (disch := omega) only [go_sem, reduceCtorEq, Nat.reduceAdd, Nat.reduceSub, Nat.reduceMul, Nat.reduceLT, Nat.reduceLeDiff, Nat.reduceEqDiff, Nat.reduceBEq, Int.reduceToNat, Int.reduceLT, Int.reduceLE, Int.reduceEq, Int.reduceNeg, Int.reduceAdd, Int.reduceSub, Int.reduceMul, ↓reduceIte, Int.reduceBEq, Int.reduceBNe, hri, hra, hrb, hwr]
      · have hno : (100 * (yl - 1 - sl) < va * ys ∧ va * ys < 100 * (yh + 1 + sl)) := of_decide_eq_true hisR.symm
        rw [Bool.true_and] at hp
        have h : -100 * (1 + sl) < va * ys - 100 * yl := by omega
        have h' : va * ys - 100 * yh < 100 * (1 + sl) := by omega
        clear hno hisR hm2 hwr2
        simp -implicitDefEqProofs (maxSteps := 2000000) (disch := omega) only [go_sem, reduceCtorEq, Nat.reduceAdd, Nat.reduceSub, Nat.reduceMul, Nat.reduceLT, Nat.reduceLeDiff, Nat.reduceEqDiff, Nat.reduceBEq, Int.reduceToNat, Int.reduceLT, Int.reduceLE, Int.reduceEq, Int.reduceNeg, Int.reduceAdd, Int.reduceSub, Int.reduceMul, ↓reduceIte, Int.reduceBEq, Int.reduceBNe, hri, hra, hrb, hwr]
        refine ⟨fun _ => ?_, fun _ => ?_⟩ <;> exact (ih hp (j ++ [_])).castS rfl (by simp [upd, ins, subF, lookA])
    · rw [if_neg k1] at hisR
      by_cases k2 : yk = 2
      · subst k2
        rw [if_pos rfl] at hisR
        cases b
        · have hno : ¬ (100 * yl ≤ dist va vb * ys ∧ dist va vb * ys ≤ 100 * yh) := of_decide_eq_false hisR.symm
          rw [Bool.false_and] at hp
          rw [← hp]
          rcases (by omega : ¬ (100 * yl ≤ dist va vb * ys) ∨ (100 * yl ≤ dist va vb * ys ∧ ¬ (dist va vb * ys ≤ 100 * yh))) with h | ⟨h, h'⟩
          · clear hno hisR
            simp -implicitDefEqProofs (maxSteps := 2000000) (disch := omega) only [go_sem, reduceCtorEq, Nat.reduceAdd, Nat.reduceSub, Nat.reduceMul, Nat.reduceLT, Nat.reduceLeDiff, Nat.reduceEqDiff, Nat.reduceBEq, Int.reduceToNat, Int.reduceLT, Int.reduceLE, Int.reduceEq, Int.reduceNeg, Int.reduceAdd, Int.reduceSub, Int.reduceMul, ↓reduceIte, Int.reduceBEq, Int.reduceBNe, hri, hra, hrb, hwr, hwr2]
          · clear hno hisR
            simp -implicitDefEqProofs (maxSteps := 2000000) (disch := omega) only [go_sem, reduceCtorEq, Nat.reduceAdd, Nat.reduceSub, Nat.reduceMul, Nat.reduceLT, Nat.reduceLeDiff, Nat.reduceEqDiff, Nat.reduceBEq, Int.reduceToNat, Int.reduceLT, Int.reduceLE, Int.reduceEq, Int.reduceNeg, Int.reduceAdd, Int.reduceSub, Int.reduceMul, ↓reduceIte, Int.reduceBEq, Int.reduceBNe, hri, hra, hrb, hwr, hwr2]
        · obtain ⟨h, h'⟩ := of_decide_eq_true hisR.symm
          rw [Bool.true_and] at hp
          clear hisR
          simp -implicitDefEqProofs (maxSteps := 2000000) (disch := omega) only [go_sem, reduceCtorEq, Nat.reduceAdd, Nat.reduceSub, Nat.reduceMul, Nat.reduceLT, Nat.reduceLeDiff, Nat.reduceEqDiff, Nat.reduceBEq, Int.reduceToNat, Int.reduceLT, Int.reduceLE, Int.reduceEq, Int.reduceNeg, Int.reduceAdd, Int.reduceSub, Int.reduceMul, ↓reduceIte, Int.reduceBEq, Int.reduceBNe, hri, hra, hrb, hwr, hwr2]
          refine ⟨fun _ => ?_, fun _ => ?_⟩ <;> exact (ih hp (j ++ [_])).castS rfl (by simp [upd, ins, subF, lookA])
      · rw [if_neg k2] at hisR
        cases b
        · have hno := of_decide_eq_false hisR.symm
          rw [Bool.false_and] at hp
          rw [← hp]
          clear hisR hm2 hwr2
          simp -implicitDefEqProofs (maxSteps := 2000000) (disch := omega) only [go_sem, reduceCtorEq, Nat.reduceAdd, Nat.reduceSub, Nat.reduceMul, Nat.reduceLT, Nat.reduceLeDiff, Nat.reduceEqDiff, Nat.reduceBEq, Int.reduceToNat, Int.reduceLT, Int.reduceLE, Int.reduceEq, Int.reduceNeg, Int.reduceAdd, Int.reduceSub, Int.reduceMul, ↓reduceIte, Int.reduceBEq, Int.reduceBNe, hri, hra, hrb, hwr]
        · have hno := of_decide_eq_true hisR.symm
          rw [Bool.true_and] at hp
          clear hisR hm2 hwr2
          simp -implicitDefEqProofs (maxSteps := 2000000) (disch := omega) only [go_sem, reduceCtorEq, Nat.reduceAdd, Nat.reduceSub, Nat.reduceMul, Nat.reduceLT, Nat.reduceLeDiff, Nat.reduceEqDiff, Nat.reduceBEq, Int.reduceToNat, Int.reduceLT, Int.reduceLE, Int.reduceEq, Int.reduceNeg, Int.reduceAdd, Int.reduceSub, Int.reduceMul, ↓reduceIte, Int.reduceBEq, Int.reduceBNe, hri, hra, hrb, hwr]
          exact (ih hp (j ++ [_])).castS rfl (by simp [upd, ins, subF, lookA])
  · intro j hp
    rw [List.drop_length] at hp
    rw [← hp]
    simp -implicitDefEqProofs (maxSteps := 2000000) (disch := omega) only [go_sem, reduceCtorEq, Nat.reduceAdd, Nat.reduceSub, Nat.reduceMul, Nat.reduceLT, Nat.reduceLeDiff, Nat.reduceEqDiff, Nat.reduceBEq, Int.reduceToNat, Int.reduceLT, Int.reduceLE, Int.reduceEq, Int.reduceNeg, Int.reduceAdd, Int.reduceSub, Int.reduceMul, ↓reduceIte, Int.reduceBEq, Int.reduceBNe]
def lfits_s := spec2 tEar tIs fun e T => if ck e = 0 ∧ T.length = e.tones.length ∧ small T then some (.bool (e.rds.all fun r => isR r e.slack T)) else none
theorem lfits_ok : ∀ xs v, lfits_s xs = some v → PureV Tryz.prog 67 xs v :=
  spec2_ok fun e T v h => by have h := someIf h; rw [← h.2]; exact lfits_p e T h.1.1 h.1.2.1 h.1.2.2
def fs151 (f : FuncId) (xs : List AV) : Option AV := if f = 67 then lfits_s xs else fs150 f xs
theorem fs151_ok : ∀ f xs v, fs151 f xs = some v → PureV Tryz.prog f xs v := by
  intro f xs v h
  unfold fs151 at h
  split at h
  · rename_i e; subst e; exact lfits_ok _ _ h
  exact fs150_ok _ _ _ h
attribute [go_sem] fs151 lfits_s
end Go.Proofs
set_option linter.unusedSimpArgs false
set_option linter.unusedVariables false
set_option maxRecDepth 100000
namespace Go.Proofs
open Go Go.Mu

/-- All tones of the first tongues. -/
def ext1 (x : Rng) (T : List Int) : List (List Int) := (List.range (x.hi - x.lo + 1).toNat).map fun (k : Nat) => T ++ [x.lo + k]
def prefL (ts : List Rng) : Nat → List (List Int)
  | 0 => [[]]
  | i + 1 => (prefL ts i).flatMap (ext1 (ts.getD i default))
/-- Numbers that go on: all tones of the tongues behind. -/
theorem rallL_ext (e : Ear) (hlen : e.tones.length ≤ 3) (T : List Int) (h : T.length < e.tones.length) : rallL e T = (ext1 e.tones[T.length] T).flatMap (rallL e) := by
  unfold ext1
  rw [List.flatMap_map]
  unfold rallL
  rw [show e.tones.length - T.length = (e.tones.length - T.length - 1) + 1 by omega]
  simp only [allT, getD_tone h, List.map_flatMap]
  congr 1; funext k
  rw [padT_set' (by omega), List.length_append, List.length_singleton, show e.tones.length - (T.length + 1) = e.tones.length - T.length - 1 by omega]
theorem prefL_len {ts : List Rng} : ∀ {i : Nat}, ∀ T ∈ prefL ts i, T.length = i
  | 0, T, h => by simp [prefL] at h; simp [h]
  | i + 1, T, h => by
    obtain ⟨U, hU, h2⟩ := List.mem_flatMap.1 h
    obtain ⟨k, _, rfl⟩ := List.mem_map.1 h2
    simp [prefL_len U hU]
theorem prefL_all (e : Ear) (hlen : e.tones.length ≤ 3) : ∀ i, i ≤ e.tones.length → (prefL e.tones i).flatMap (rallL e) = rallL e []
  | 0, _ => by simp [prefL]
  | i + 1, hi => by
    rw [← prefL_all e hlen i (by omega)]
    simp only [prefL]
    rw [List.flatMap_assoc]
    have : ∀ (l : List (List Int)), (∀ T ∈ l, T.length = i) → (l.flatMap fun T => (ext1 (e.tones.getD i default) T).flatMap (rallL e)) = l.flatMap (rallL e) := by
      intro l
      induction l with
      | nil => intro _; rfl
      | cons T l ih =>
        intro h
        simp only [List.flatMap_cons]
        have hT := h T (by simp)
        rw [ih fun U hU => h U (by simp [hU]), rallL_ext e hlen T (by omega)]
        congr 2
        rw [getD_tone (by omega)]
        simp only [hT]
    exact this _ fun T hT => prefL_len T hT
theorem prefL_end (ts : List Rng) (hlen : ts.length ≤ 3) : prefL ts ts.length = (allC ts).map (List.take ts.length) := by
  have h := prefL_all ⟨0, ts, []⟩ hlen ts.length (Nat.le_refl _)
  have h2 : ∀ T ∈ prefL ts ts.length, rallL ⟨0, ts, []⟩ T = [T] := fun T hT => by
    have hl := prefL_len T hT
    unfold rallL
    simp only [hl, Nat.sub_self, allT, List.all_nil, if_true, List.map_cons, List.map_nil]
    rw [← hl, padT_take']
  have h3 : (prefL ts ts.length).flatMap (rallL ⟨0, ts, []⟩) = prefL ts ts.length := by
    have : ∀ (l : List (List Int)), (∀ T ∈ l, rallL ⟨0, ts, []⟩ T = [T]) → l.flatMap (rallL ⟨0, ts, []⟩) = l := by
      intro l
      induction l with
      | nil => intro _; rfl
      | cons T l ih =>
        intro h
        rw [List.flatMap_cons, h T (by simp), ih fun U hU => h U (by simp [hU])]
        rfl
    exact this _ h2
  simp only at h
  rw [h3] at h
  rw [h]; rfl
theorem truthsR_pref (e : Ear) (hlen : e.tones.length ≤ 3) (hi : ∀ r ∈ e.rds, 0 ≤ r.a ∧ r.a < e.tones.length ∧ (r.kind ≠ 1 → 0 ≤ r.b ∧ r.b < e.tones.length)) :
    truthsR e = (prefL e.tones e.tones.length).filter fun T => e.rds.all fun r => isR r e.slack T := by
  unfold truthsR
  rw [truthsL_filter, prefL_end _ hlen, List.filter_map]
  congr 2
  funext t
  simp only [Function.comp, fitsR]
  rw [Bool.eq_iff_iff, List.all_eq_true, List.all_eq_true]
  have key : ∀ r ∈ e.rds, isR r e.slack (t.take e.tones.length) = isR r e.slack t := fun r hr => by
    obtain ⟨h1, h2, h3⟩ := hi r hr
    unfold isR
    rw [tg_take h2 h1]
    by_cases hk : r.kind = 1
    · rw [if_pos hk, if_pos hk]
    · obtain ⟨h4, h5⟩ := h3 hk
      rw [tg_take h5 h4]
  constructor
  · intro h r hr; rw [key r hr]; exact h r hr
  · intro h r hr; rw [← key r hr]; exact h r hr
end Go.Proofs
set_option linter.unusedSimpArgs false
set_option linter.unusedVariables false
set_option maxRecDepth 100000
namespace Go.Proofs
open Go Go.Mu

theorem ext1_len {x : Rng} {T : List Int} (hx : x.lo ≤ x.hi ∧ x.hi - x.lo ≤ 20) : (ext1 x T).length ≤ 21 := by unfold ext1; simp; omega
theorem flatMapL_len {f : List Int → List (List Int)} {b : Nat} : ∀ (l : List (List Int)), (∀ T ∈ l, (f T).length ≤ b) → (l.flatMap f).length ≤ l.length * b
  | [], _ => by simp
  | T :: l, h => by
    rw [List.flatMap_cons, List.length_append, List.length_cons, Nat.succ_mul]
    have h1 := h T (by simp)
    have h2 := flatMapL_len l fun U hU => h U (by simp [hU])
    omega
theorem prefL_size {ts : List Rng} (ht : ∀ x ∈ ts, 1 ≤ x.lo ∧ x.lo ≤ x.hi ∧ x.hi ≤ 100000 ∧ x.hi - x.lo ≤ 20) : ∀ {i : Nat}, i ≤ ts.length → (prefL ts i).length ≤ 21 ^ i
  | 0, _ => by simp [prefL]
  | i + 1, hi => by
    simp only [prefL]
    have hx := ht _ (List.getElem_mem (show i < ts.length by omega))
    refine Nat.le_trans (flatMapL_len (b := 21) _ fun T _ => ext1_len ?_) ?_
    · simp only [List.getD, List.getElem?_eq_getElem (show i < ts.length by omega), Option.getD_some]; omega
    · rw [Nat.pow_succ]; exact Nat.mul_le_mul_right _ (prefL_size ht (by omega))
theorem prefL_small {ts : List Rng} (ht : ∀ x ∈ ts, 1 ≤ x.lo ∧ x.lo ≤ x.hi ∧ x.hi ≤ 100000 ∧ x.hi - x.lo ≤ 20) : ∀ {i : Nat}, i ≤ ts.length → ∀ T ∈ prefL ts i, small T
  | 0, _, T, h => by simp [prefL] at h; subst h; exact small0
  | i + 1, hi, T, h => by
    obtain ⟨U, hU, h2⟩ := List.mem_flatMap.1 h
    obtain ⟨k, hk, rfl⟩ := List.mem_map.1 h2
    have hx := ht _ (List.getElem_mem (show i < ts.length by omega))
    simp only [List.getD, List.getElem?_eq_getElem (show i < ts.length by omega), Option.getD_some, List.mem_range] at hk ⊢
    intro y hy
    rcases List.mem_append.1 hy with h | h
    · exact prefL_small ht (by omega) U hU y h
    · simp at h; subst h; omega
set_option maxHeartbeats 8000000 in
theorem ltruths_p (e : Ear) (hc : ck e = 0) : PureV Tryz.prog 24 [e.av] (tss (truthsR e)) := by
  refine PureV.of_ev (E := Tryz.E 72 Tryz.ord24 fs151) (Tryz.envOK 72 Tryz.ord24 fs151 fs151_ok) (tss_plain _) Tryz.kp24 Tryz.func24 rfl (by kernel_rfl) (by simp [Tryz.E]) (Callable.of Tryz.func24 (by kernel_rfl) (by kernel_rfl)) (by kernel_rfl) ?_
  intro σ
  have he := okE_of_ck hc
  have hlen := he.len
  have htn := he.tone
  have hpr := truthsR_pref e hlen fun r hr => by
    have h1 := ck_rd hc r hr
    have h2 := okR_of_ck hlen h1
    obtain ⟨x1, x2⟩ := ckR_idx h1
    exact ⟨h2.2.1.1, x1, fun h => ⟨h2.2.2.1.1, x2 h⟩⟩
  rw [hpr]
  clear hpr
  obtain ⟨s, ts, rs⟩ := e
  simp only at hlen htn
  have hsz : ∀ i, i ≤ ts.length → (prefL ts i).length ≤ 9261 := fun i hi => Nat.le_trans (prefL_size htn hi) (Nat.le_trans (Nat.pow_le_pow_right (by omega) (show i ≤ 3 by omega)) (by decide))
  have hsm : ∀ T ∈ prefL ts ts.length, small T := prefL_small htn (Nat.le_refl _)
  simp only [Ear.av]
  simp -implicitDefEqProofs (maxSteps := 2000000) (disch := omega) only [go_sem, reduceCtorEq, Nat.reduceAdd, Nat.reduceSub, Nat.reduceMul, Nat.reduceLT, Nat.reduceLeDiff, Nat.reduceEqDiff, Nat.reduceBEq, Int.reduceToNat, Int.reduceLT, Int.reduceLE, Int.reduceEq, Int.reduceNeg, Int.reduceAdd, Int.reduceSub, Int.reduceMul, ↓reduceIte, Int.reduceBEq, Int.reduceBNe]
  refine ARun.slotNo 3 (t := .full) (sz := 1) (xs := [.list .no 1 []]) rfl (by simp [lookA]) ?_
  simp only [ins, ↓reduceIte, Nat.reduceEqDiff]
  refine ARun.forS (Tryz.envOK 72 Tryz.ord24 fs151 fs151_ok) ts.length (fun _ => True) (fun i => [(3, .list .no 1 ((prefL ts i).map isv)), (4, .int .i64 i)]) (fun i j => σ ++ (.cells [.int .i64 s, .list .no 2 (ts.map Rng.av), .list .no 6 (rs.map Rd.av)] :: j)) [] (by kernel_rfl) rfl (by simp [upd, ins, subF, lookA, prefL, isv]) trivial ?_ ?_
  · intro i j hi _ ih
    have hP := hsz i (by omega)
    have hxi := idxR hi
    have hx := htn _ (List.getElem_mem hi)
    have hps : prefL ts (i + 1) = (prefL ts i).flatMap (ext1 ts[i]) := by simp only [prefL, List.getD, List.getElem?_eq_getElem hi, Option.getD_some]
    have hUl : ∀ T ∈ prefL ts i, T.length ≤ 3 := fun T hT => by rw [prefL_len T hT]; omega
    rw [hps] at ih
    clear hps hsz hsm htn hc he
    generalize prefL ts i = P at hP ih hUl ⊢
    generalize ts[i] = x at hxi hx ih
    obtain ⟨lo, hi'⟩ := x
    simp only at hx
    simp only [Rng.av] at hxi
    simp -implicitDefEqProofs (maxSteps := 2000000) (disch := omega) only [go_sem, reduceCtorEq, Nat.reduceAdd, Nat.reduceSub, Nat.reduceMul, Nat.reduceLT, Nat.reduceLeDiff, Nat.reduceEqDiff, Nat.reduceBEq, Int.reduceToNat, Int.reduceLT, Int.reduceLE, Int.reduceEq, Int.reduceNeg, Int.reduceAdd, Int.reduceSub, Int.reduceMul, ↓reduceIte, Int.reduceBEq, Int.reduceBNe]
    refine ARun.ghost 5 1 (sz0 := 0) rfl (by simp [lookA]) ?_
    simp only [ins, ↓reduceIte, List.append_assoc, List.cons_append, List.nil_append, List.length_append, List.length_cons, List.length_nil, Nat.zero_add, Nat.reduceEqDiff, Nat.reduceAdd]
    refine ARun.forS (Tryz.envOK 72 Tryz.ord24 fs151 fs151_ok) P.length (fun _ => True) (fun k => [(5, .list (.own (σ.length + (j.length + 1))) 1 (((P.take k).flatMap (ext1 ⟨lo, hi'⟩)).map isv)), (6, .int .i64 k)]) (fun k j2 => σ ++ (.cells [.int .i64 s, .list .no 2 (ts.map Rng.av), .list .no 6 (rs.map Rd.av)] :: (j ++ .tail ((P.take k).flatMap (ext1 ⟨lo, hi'⟩)).length 1 :: j2))) [] (by kernel_rfl) (by simp) (by simp [upd, ins, subF, lookA]) trivial ?_ ?_
    · intro k j2 hk _ ih2
      have hrk := idx_iss hk
      have hTl := hUl _ (List.getElem_mem hk)
      have hbl : ((P.take k).flatMap (ext1 ⟨lo, hi'⟩)).length ≤ (P.take k).length * 21 := flatMapL_len _ fun T _ => ext1_len (by simp only; omega)
      have hbl2 : ((P.take k).flatMap (ext1 ⟨lo, hi'⟩)).length ≤ 200000 := by rw [List.length_take] at hbl; omega
      rw [List.take_succ_eq_append_getElem hk, List.flatMap_append, List.flatMap_cons, List.flatMap_nil, List.append_nil] at ih2
      clear hbl hUl ih
      generalize (P.take k).flatMap (ext1 ⟨lo, hi'⟩) = B at hbl2 ih2 ⊢
      generalize P[k] = T at hrk hTl ih2
      simp -implicitDefEqProofs (maxSteps := 2000000) (disch := omega) only [go_sem, reduceCtorEq, Nat.reduceAdd, Nat.reduceSub, Nat.reduceMul, Nat.reduceLT, Nat.reduceLeDiff, Nat.reduceEqDiff, Nat.reduceBEq, Int.reduceToNat, Int.reduceLT, Int.reduceLE, Int.reduceEq, Int.reduceNeg, Int.reduceAdd, Int.reduceSub, Int.reduceMul, ↓reduceIte, Int.reduceBEq, Int.reduceBNe, hxi]
      refine ARun.forS (Tryz.envOK 72 Tryz.ord24 fs151 fs151_ok) (hi' - lo + 1).toNat (fun _ => True) (fun q => [(5, .list (.own (σ.length + (j.length + 1))) 1 ((B ++ (List.range q).map fun (k : Nat) => T ++ [lo + k]).map isv)), (7, .int .i64 (lo + q))]) (fun q j3 => σ ++ (.cells [.int .i64 s, .list .no 2 (ts.map Rng.av), .list .no 6 (rs.map Rd.av)] :: (j ++ .tail (B ++ (List.range q).map fun (k : Nat) => T ++ [lo + k]).length 1 :: (j2 ++ j3)))) [] (by kernel_rfl) (by simp) (by simp [upd, ins, subF, lookA]) trivial ?_ ?_
      · intro q j3 hq _ ih3
        have hDl : (B ++ (List.range q).map fun (k : Nat) => T ++ [lo + k]).length ≤ 300000 := by rw [List.length_append, List.length_map, List.length_range]; omega
        have hDs : (B ++ (List.range (q + 1)).map fun (k : Nat) => T ++ [lo + k]) = (B ++ (List.range q).map fun (k : Nat) => T ++ [lo + k]) ++ [T ++ [lo + (q : Int)]] := by rw [List.range_succ, List.map_append, List.append_assoc]; rfl
        rw [hDs] at ih3
        clear hDs ih2
        generalize (B ++ (List.range q).map fun (k : Nat) => T ++ [lo + k]) = D at hDl ih3 ⊢
        simp only [isv] at hrk
        simp -implicitDefEqProofs (maxSteps := 2000000) (disch := omega) only [go_sem, reduceCtorEq, Nat.reduceAdd, Nat.reduceSub, Nat.reduceMul, Nat.reduceLT, Nat.reduceLeDiff, Nat.reduceEqDiff, Nat.reduceBEq, Int.reduceToNat, Int.reduceLT, Int.reduceLE, Int.reduceEq, Int.reduceNeg, Int.reduceAdd, Int.reduceSub, Int.reduceMul, ↓reduceIte, Int.reduceBEq, Int.reduceBNe, hxi, hrk]
        refine ints_c T .no (by omega) _ _ ?_
        generalize hτ : σ ++ .cells [.int .i64 s, .list .no 2 (ts.map Rng.av), .list .no 6 (rs.map Rd.av)] :: (j ++ .tail D.length 1 :: (j2 ++ j3)) = τ
        have hgd : hget τ (σ.length + (j.length + 1)) = some (.tail D.length 1) := by rw [← hτ, hget_at]; simp
        have hlt := hget_lt hgd
        have hgq : ∀ l, hget (τ ++ l) (σ.length + (j.length + 1)) = some (.tail D.length 1) := fun l => by rw [hget_app hlt]; exact hgd
        have hsq : ∀ l o, hset (τ ++ l) (σ.length + (j.length + 1)) o = hset τ (σ.length + (j.length + 1)) o ++ l := fun l o => by unfold hset; rw [List.set_append_left _ _ hlt]
        have hse : hset τ (σ.length + (j.length + 1)) (.tail (D.length + 1) 1) = σ ++ .cells [.int .i64 s, .list .no 2 (ts.map Rng.av), .list .no 6 (rs.map Rd.av)] :: (j ++ .tail (D.length + 1) 1 :: (j2 ++ j3)) := by rw [← hτ, hset_at]; simp
        simp -implicitDefEqProofs (maxSteps := 2000000) (disch := omega) only [go_sem, reduceCtorEq, Nat.reduceAdd, Nat.reduceSub, Nat.reduceMul, Nat.reduceLT, Nat.reduceLeDiff, Nat.reduceEqDiff, Nat.reduceBEq, Int.reduceToNat, Int.reduceLT, Int.reduceLE, Int.reduceEq, Int.reduceNeg, Int.reduceAdd, Int.reduceSub, Int.reduceMul, ↓reduceIte, Int.reduceBEq, Int.reduceBNe, hxi, hrk, hgq, hsq, hse]
        exact (ih3 trivial (j3 ++ [.tail (T.length + 1) 1])).castS (by simp) (by simp [upd, ins, subF, lookA, isv, Int.add_assoc])
      · intro j3 _
        have he1 : (B ++ (List.range (hi' - lo + 1).toNat).map fun (k : Nat) => T ++ [lo + k]) = B ++ ext1 ⟨lo, hi'⟩ T := rfl
        rw [he1]
        generalize B ++ ext1 ⟨lo, hi'⟩ T = D at ih2 ⊢
        have e : lo + ((hi' - lo + 1).toNat : Int) = hi' + 1 := by omega
        rw [e]
        simp -implicitDefEqProofs (maxSteps := 2000000) (disch := omega) only [go_sem, reduceCtorEq, Nat.reduceAdd, Nat.reduceSub, Nat.reduceMul, Nat.reduceLT, Nat.reduceLeDiff, Nat.reduceEqDiff, Nat.reduceBEq, Int.reduceToNat, Int.reduceLT, Int.reduceLE, Int.reduceEq, Int.reduceNeg, Int.reduceAdd, Int.reduceSub, Int.reduceMul, ↓reduceIte, Int.reduceBEq, Int.reduceBNe, hxi]
        exact (ih2 trivial (j2 ++ j3)).castS rfl (by simp [upd, ins, subF, lookA])
    · intro j2 _
      rw [List.take_length]
      generalize P.flatMap (ext1 ⟨lo, hi'⟩) = D at ih ⊢
      simp -implicitDefEqProofs (maxSteps := 2000000) (disch := omega) only [go_sem, reduceCtorEq, Nat.reduceAdd, Nat.reduceSub, Nat.reduceMul, Nat.reduceLT, Nat.reduceLeDiff, Nat.reduceEqDiff, Nat.reduceBEq, Int.reduceToNat, Int.reduceLT, Int.reduceLE, Int.reduceEq, Int.reduceNeg, Int.reduceAdd, Int.reduceSub, Int.reduceMul, ↓reduceIte, Int.reduceBEq, Int.reduceBNe]
      refine ARun.slotNo 3 (t := .own (σ.length + (j.length + 1))) (sz := 1) (xs := D.map isv) rfl (by simp [lookA]) ?_
      simp only [ins, ↓reduceIte, Nat.reduceEqDiff]
      exact (ih trivial (j ++ .tail D.length 1 :: j2)).castS rfl (by simp [upd, ins, subF, lookA])
  · intro j _
    have hP := hsz ts.length (Nat.le_refl _)
    have hPl : ∀ T ∈ prefL ts ts.length, T.length = ts.length := fun T hT => prefL_len T hT
    clear hsz htn he
    generalize prefL ts ts.length = P at hP hPl hsm ⊢
    simp -implicitDefEqProofs (maxSteps := 2000000) (disch := omega) only [go_sem, reduceCtorEq, Nat.reduceAdd, Nat.reduceSub, Nat.reduceMul, Nat.reduceLT, Nat.reduceLeDiff, Nat.reduceEqDiff, Nat.reduceBEq, Int.reduceToNat, Int.reduceLT, Int.reduceLE, Int.reduceEq, Int.reduceNeg, Int.reduceAdd, Int.reduceSub, Int.reduceMul, ↓reduceIte, Int.reduceBEq, Int.reduceBNe]
    refine ARun.ghost 8 1 (sz0 := 0) rfl (by simp [lookA]) ?_
    simp only [ins, ↓reduceIte, List.append_assoc, List.cons_append, List.nil_append, List.length_append, List.length_cons, List.length_nil, Nat.zero_add, Nat.reduceEqDiff, Nat.reduceAdd]
    refine ARun.forS (Tryz.envOK 72 Tryz.ord24 fs151 fs151_ok) P.length (fun _ => True) (fun k => [(8, .list (.own (σ.length + (j.length + 1))) 1 (((P.take k).filter fun T => rs.all fun r => isR r s T).map isv)), (9, .int .i64 k)]) (fun k j2 => σ ++ (.cells [.int .i64 s, .list .no 2 (ts.map Rng.av), .list .no 6 (rs.map Rd.av)] :: (j ++ .tail ((P.take k).filter fun T => rs.all fun r => isR r s T).length 1 :: j2))) [] (by kernel_rfl) (by simp) (by simp [upd, ins, subF, lookA]) trivial ?_ ?_
    · intro k j2 hk _ ih
      have hrk := idx_iss hk
      have hTl := hPl _ (List.getElem_mem hk)
      have hTs := hsm _ (List.getElem_mem hk)
      have hle : ((P.take k).filter fun T => rs.all fun r => isR r s T).length ≤ k := Nat.le_trans (List.length_filter_le _ _) (List.length_take_le _ _)
      have hst : ((P.take (k + 1)).filter fun T => rs.all fun r => isR r s T) = ((P.take k).filter fun T => rs.all fun r => isR r s T) ++ (if (rs.all fun r => isR r s P[k]) = true then [P[k]] else []) := by
        rw [List.take_succ_eq_append_getElem hk, List.filter_append]
        congr 1
        simp only [List.filter_cons, List.filter_nil]
      rw [hst] at ih
      clear hst hPl hsm
      generalize ((P.take k).filter fun T => rs.all fun r => isR r s T) = B at hle ih ⊢
      generalize P[k] = T at hrk hTl hTs ih
      simp only [isv] at hrk
      have hbv : ∀ b, (rs.all fun r => isR r s T) = b → (rs.all fun r => isR r s T) = b := fun b h => h
      cases hb : (rs.all fun r => isR r s T)
      · rw [hb, if_neg (by simp), List.append_nil] at ih
        simp -implicitDefEqProofs (maxSteps := 2000000) (disch := omega) only [go_sem, reduceCtorEq, Nat.reduceAdd, Nat.reduceSub, Nat.reduceMul, Nat.reduceLT, Nat.reduceLeDiff, Nat.reduceEqDiff, Nat.reduceBEq, Int.reduceToNat, Int.reduceLT, Int.reduceLE, Int.reduceEq, Int.reduceNeg, Int.reduceAdd, Int.reduceSub, Int.reduceMul, ↓reduceIte, Int.reduceBEq, Int.reduceBNe, hrk, hc, hTl, hTs, hb]
        exact (ih trivial j2).castS rfl (by simp [upd, ins, subF, lookA])
      · rw [hb, if_pos rfl] at ih
        simp -implicitDefEqProofs (maxSteps := 2000000) (disch := omega) only [go_sem, reduceCtorEq, Nat.reduceAdd, Nat.reduceSub, Nat.reduceMul, Nat.reduceLT, Nat.reduceLeDiff, Nat.reduceEqDiff, Nat.reduceBEq, Int.reduceToNat, Int.reduceLT, Int.reduceLE, Int.reduceEq, Int.reduceNeg, Int.reduceAdd, Int.reduceSub, Int.reduceMul, ↓reduceIte, Int.reduceBEq, Int.reduceBNe, hrk, hc, hTl, hTs, hb]
        exact (ih trivial j2).castS (by simp) (by simp [upd, ins, subF, lookA, isv])
    · intro j2 _
      rw [List.take_length]
      generalize (P.filter fun T => rs.all fun r => isR r s T) = D
      simp -implicitDefEqProofs (maxSteps := 2000000) (disch := omega) only [go_sem, reduceCtorEq, Nat.reduceAdd, Nat.reduceSub, Nat.reduceMul, Nat.reduceLT, Nat.reduceLeDiff, Nat.reduceEqDiff, Nat.reduceBEq, Int.reduceToNat, Int.reduceLT, Int.reduceLE, Int.reduceEq, Int.reduceNeg, Int.reduceAdd, Int.reduceSub, Int.reduceMul, ↓reduceIte, Int.reduceBEq, Int.reduceBNe, tss]
def ltruths_s := spec1 tEar fun e => if ck e = 0 then some (tss (truthsR e)) else none
theorem ltruths_ok : ∀ xs v, ltruths_s xs = some v → PureV Tryz.prog 24 xs v :=
  spec1_ok fun e v h => by have h := someIf h; rw [← h.2]; exact ltruths_p e h.1
end Go.Proofs
