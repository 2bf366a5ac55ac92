/- Texts of a proof: lemmas. -/
import Derived.Test.YthejgnlikaiddaaGreatDoorPRK1
import Derived.Test.YthejgnlikaiddaaGreatDoorPW1
set_option linter.unusedSimpArgs false
set_option linter.unusedVariables false
set_option maxRecDepth 100000
namespace Go.Proofs
open Go Go.Mu

def fs120 (f : FuncId) (xs : List AV) : Option AV := if f = 71 then rLooks_s xs else fs109 f xs
theorem fs120_ok : ∀ f xs v, fs120 f xs = some v → PureV Tryz.prog f xs v := by
  intro f xs v h
  unfold fs120 at h
  split at h
  · rename_i e; subst e; exact rLooks_ok _ _ h
  exact fs109_ok _ _ _ h
attribute [go_sem] fs120 rLooks_s
def Tryz.ordL : Nat → List Nat × List (Nat × List Nat)
  | 9 => ([0, 1, 3, 3, 3, 27, 59, 127, 3, 511, 1023, 3, 4095, 8191, 16383], [(0, []), (1, []), (2, []), (3, []), (4, []), (5, []), (6, []), (8, []), (11, []), (7, [7]), (9, []), (10, []), (12, []), (13, []), (14, [])])
  | _ => ([], [])
theorem Tryz.ordL_9 : Tryz.ordL 9 = ([0, 1, 3, 3, 3, 27, 59, 127, 3, 511, 1023, 3, 4095, 8191, 16383], [(0, []), (1, []), (2, []), (3, []), (4, []), (5, []), (6, []), (8, []), (11, []), (7, [7]), (9, []), (10, []), (12, []), (13, []), (14, [])]) := rfl
attribute [go_sem] Tryz.ordL_9
/-- A truth as the reference has it. -/
def okT (c : Cat) (t : List Int) : Prop := t.length = 2 ∧ (0 ≤ tg t 0 ∧ tg t 0 < c.models.length) ∧ (0 ≤ tg t 1 - (modAt c t).first ∧ tg t 1 - (modAt c t).first < (modAt c t).looks.length)
instance (c : Cat) (t : List Int) : Decidable (okT c t) := by unfold okT; infer_instance
theorem okT_len {c : Cat} {t : List Int} (hC : OkC c) (h : okT c t) : (lookAt c t).length = c.features ∧ ∀ x ∈ lookAt c t, 1 ≤ x ∧ x ≤ 3 := by
  obtain ⟨h1, h2, h3⟩ := h
  have hq : (tg t 0).toNat < c.models.length := by omega
  have hM : modAt c t = c.models[(tg t 0).toNat] := by unfold modAt; simp [List.getD, List.getElem?_eq_getElem hq]
  have hk : (tg t 1 - (modAt c t).first).toNat < (modAt c t).looks.length := by omega
  have hl : lookAt c t = (modAt c t).looks[(tg t 1 - (modAt c t).first).toNat] := by unfold lookAt; simp [List.getD, List.getElem?_eq_getElem hk]
  have hmem : lookAt c t ∈ (c.models[(tg t 0).toNat]).looks := by rw [hl, ← hM]; exact List.getElem_mem hk
  exact (hC.model _ (List.getElem_mem hq)).look _ hmem
def anyL (c : Cat) (l : List (List Int)) (f v : Int) : Bool := l.any fun t => decide (tg (lookAt c t) f = v)
def looksL (c : Cat) (l : List (List Int)) (f : Int) (n : Nat) : List Int := ((List.range n).map fun (k : Nat) => ((k : Int) + 1)).filter (anyL c l f)
theorem looksL_succ {c : Cat} {l : List (List Int)} {f : Int} {n : Nat} : looksL c l f (n + 1) = looksL c l f n ++ if anyL c l f (n + 1) then [(n : Int) + 1] else [] := by
  unfold looksL
  rw [List.range_succ, List.map_append, List.filter_append]
  cases h : anyL c l f (n + 1) <;> simp [h]
/-- What the reference needs of one way. -/
theorem pair_at {c : Cat} {m : Made} (hC : OkC c) (h : m ∈ allMade c) : m.pair.length = 2 ∧ (0 ≤ tg m.pair 0 ∧ tg m.pair 0 < c.models.length) ∧ (0 ≤ tg m.pair 1 - (modAt c m.pair).first ∧ tg m.pair 1 - (modAt c m.pair).first < (modAt c m.pair).looks.length) ∧ (lookAt c m.pair).length = c.features ∧ ∀ f : Int, 0 ≤ f → f < c.features → tg (lookAt c m.pair) f = tg m.look f := by
  obtain ⟨q, k, hq, hk, rfl⟩ := all_mem h
  have hM := hC.model _ (List.getElem_mem hq)
  have hgd : c.models.getD q default = c.models[q] := by simp [List.getD, List.getElem?_eq_getElem hq]
  rw [hgd] at hk ⊢
  have e0 : tg (madeOf q c.models[q] k).pair 0 = (q : Int) := rfl
  have e1 : tg (madeOf q c.models[q] k).pair 1 = (c.models[q]).first + (k : Int) := rfl
  have em : modAt c (madeOf q c.models[q] k).pair = c.models[q] := by unfold modAt; rw [e0]; simpa using hgd
  have el : lookAt c (madeOf q c.models[q] k).pair = (c.models[q]).looks[k] := by
    unfold lookAt; rw [em, e1, show ((c.models[q]).first + (k : Int) - (c.models[q]).first).toNat = k by omega]
    simp [List.getD, List.getElem?_eq_getElem hk]
  have hll := hM.look _ (List.getElem_mem hk)
  rw [e0, em, e1, el]
  refine ⟨rfl, ⟨by omega, by omega⟩, ⟨by omega, by omega⟩, hll.1, fun f h0 h1 => ?_⟩
  have hg1 : (c.models[q]).looks.getD k [] = (c.models[q]).looks[k] := by simp [List.getD, List.getElem?_eq_getElem hk]
  have hlk : (madeOf q c.models[q] k).look = [tg (c.models[q]).looks[k] 0, tg (c.models[q]).looks[k] 1, tg (c.models[q]).looks[k] 2, tg (c.models[q]).looks[k] 3] := by unfold madeOf Made.look; simp only [hg1]
  rw [hlk]
  have hfe := hC.features
  have : f = 0 ∨ f = 1 ∨ f = 2 ∨ f = 3 := by omega
  rcases this with rfl | rfl | rfl | rfl <;> rfl
set_option maxHeartbeats 40000000 in
theorem rlooks_p (c : Cat) (l : List (List Int)) (f : Int) (hC : OkC c) (hT : ∀ t ∈ l, okT c t) (hl : l.length ≤ 16) (h0 : 0 ≤ f) (h1 : f < c.features) : PureV Tryz.prog 69 [c.av, .list .no 1 (l.map isv), .int .i64 f] (isv (looksL c l f 3)) := by
  refine PureV.of_ev (E := Tryz.Ev 41 Tryz.ordL fs120) (Tryz.envOKV 41 Tryz.ordL fs120 fs120_ok) (isv_plain _) Tryz.kp69 Tryz.func69 rfl (by kernel_rfl) (by simp [Tryz.Ev]) (Callable.of Tryz.func69 (by kernel_rfl) (by kernel_rfl)) (by kernel_rfl) ?_
  intro σ
  have hcav : c.av = .agg [.int .i64 c.features, .list .no 3 (c.models.map Model.av)] := rfl
  rw [hcav]
  simp -implicitDefEqProofs (maxSteps := 2000000) (disch := omega) only [go_sem, reduceCtorEq, Nat.reduceAdd, Nat.reduceSub, Nat.reduceMul, Nat.reduceLT, Nat.reduceLeDiff, Nat.reduceEqDiff, Nat.reduceBEq, Int.reduceToNat, Int.reduceLT, Int.reduceLE, Int.reduceEq, Int.reduceNeg, Int.reduceAdd, Int.reduceSub, Int.reduceMul, ↓reduceIte, Int.reduceBEq, Int.reduceBNe]
  refine ARun.ghost 7 1 (sz0 := 0) rfl (by simp [lookA]) ?_
  simp only [ins, ↓reduceIte, List.append_assoc, List.cons_append, List.nil_append, List.length_append, List.length_cons, List.length_nil, Nat.zero_add, Nat.reduceEqDiff]
  refine ARun.forG (Tryz.envOKV 41 Tryz.ordL fs120 fs120_ok) 3 (fun _ => True) (fun i => [(7, .list (.own (σ.length + 1)) 1 ((looksL c l f i).map (.int .i64))), (8, .int .i64 ((i : Int) + 1))]) (fun i j => σ ++ (.cells [.int .i64 c.features, .list .no 3 (c.models.map Model.av)] :: .tail (looksL c l f i).length 1 :: j)) [] (by kernel_rfl) (by kernel_rfl) (by simp [looksL]) (by simp [upd, ins, subF, lookA, looksL]) trivial ?_ ?_
  · intro K Q' hK i j hi _ ih
    rw [looksL_succ] at ih
    have hln : (looksL c l f i).length ≤ i := by unfold looksL; refine Nat.le_trans (List.length_filter_le _ _) ?_; simp
    generalize looksL c l f i = D at ih hln ⊢
    simp -implicitDefEqProofs (maxSteps := 2000000) (disch := omega) only [go_sem, reduceCtorEq, Nat.reduceAdd, Nat.reduceSub, Nat.reduceMul, Nat.reduceLT, Nat.reduceLeDiff, Nat.reduceEqDiff, Nat.reduceBEq, Int.reduceToNat, Int.reduceLT, Int.reduceLE, Int.reduceEq, Int.reduceNeg, Int.reduceAdd, Int.reduceSub, Int.reduceMul, ↓reduceIte, Int.reduceBEq, Int.reduceBNe]
    refine ARun.forG (Tryz.envOKV 41 Tryz.ordL fs120 fs120_ok) l.length (fun _ => True) (fun k => [(9, .bool (anyL c (l.take k) f (i + 1))), (10, .int .i64 k)]) (fun k j2 => σ ++ (.cells [.int .i64 c.features, .list .no 3 (c.models.map Model.av)] :: .tail D.length 1 :: (j ++ j2))) [] (by kernel_rfl) (by repeat (first | exact hK | (rw [todoOK_cons, Bool.and_eq_true]; refine ⟨by kernel_rfl, ?_⟩))) (by simp) (by simp [upd, ins, subF, lookA, anyL]) trivial ?_ ?_
    · intro K2 Q2 hK2 k j2 hk _ ih2
      have hTk := hT _ (List.getElem_mem hk)
      obtain ⟨g6, _⟩ := okT_len hC hTk
      obtain ⟨g1, ⟨g2, g3⟩, ⟨g4, g5⟩⟩ := hTk
      have hst : anyL c (l.take (k + 1)) f (i + 1) = (anyL c (l.take k) f (i + 1) || decide (tg (lookAt c l[k]) f = (i : Int) + 1)) := by
        unfold anyL; rw [List.take_succ_eq_append_getElem hk, List.any_append]; simp
      have hidx : idx (l.map isv) (k : Int) = some (.list .no 1 (l[k].map (.int .i64))) := idx_nat hk
      rw [hst] at ih2
      generalize anyL c (l.take k) f (i + 1) = b at ih2 ⊢
      have hfi : idx ((lookAt c (l[k])).map (AV.int .i64)) f = some (.int .i64 (tg (lookAt c (l[k])) f)) := by
        obtain ⟨n, rfl⟩ : ∃ n : Nat, f = n := ⟨f.toNat, by omega⟩
        have hn : n < (lookAt c (l[k])).length := by omega
        rw [idx_nat hn, tgE hn]
      clear hst hT
      generalize l[k] = t at g1 g2 g3 g4 g5 g6 hidx hfi ih2
      generalize tg (lookAt c t) f = w at hfi ih2
      cases b
      · by_cases hw : w = (i : Int) + 1
        · rw [decide_eq_true hw, Bool.or_true] at ih2
          simp -implicitDefEqProofs (maxSteps := 2000000) (disch := omega) only [go_sem, reduceCtorEq, Nat.reduceAdd, Nat.reduceSub, Nat.reduceMul, Nat.reduceLT, Nat.reduceLeDiff, Nat.reduceEqDiff, Nat.reduceBEq, Int.reduceToNat, Int.reduceLT, Int.reduceLE, Int.reduceEq, Int.reduceNeg, Int.reduceAdd, Int.reduceSub, Int.reduceMul, ↓reduceIte, Int.reduceBEq, Int.reduceBNe, hidx, Cat_eta, hC, g1, g2, g3, g4, g5, isv, hfi]
          exact (ih2 trivial j2).castS (by first | rfl | simp) (by simp [upd, ins, subF, lookA])
        · rw [decide_eq_false hw, Bool.or_false] at ih2
          simp -implicitDefEqProofs (maxSteps := 2000000) (disch := omega) only [go_sem, reduceCtorEq, Nat.reduceAdd, Nat.reduceSub, Nat.reduceMul, Nat.reduceLT, Nat.reduceLeDiff, Nat.reduceEqDiff, Nat.reduceBEq, Int.reduceToNat, Int.reduceLT, Int.reduceLE, Int.reduceEq, Int.reduceNeg, Int.reduceAdd, Int.reduceSub, Int.reduceMul, ↓reduceIte, Int.reduceBEq, Int.reduceBNe, hidx, Cat_eta, hC, g1, g2, g3, g4, g5, isv, hfi]
          exact (ih2 trivial j2).castS (by first | rfl | simp) (by simp [upd, ins, subF, lookA])
      · simp -implicitDefEqProofs (maxSteps := 2000000) (disch := omega) only [go_sem, reduceCtorEq, Nat.reduceAdd, Nat.reduceSub, Nat.reduceMul, Nat.reduceLT, Nat.reduceLeDiff, Nat.reduceEqDiff, Nat.reduceBEq, Int.reduceToNat, Int.reduceLT, Int.reduceLE, Int.reduceEq, Int.reduceNeg, Int.reduceAdd, Int.reduceSub, Int.reduceMul, ↓reduceIte, Int.reduceBEq, Int.reduceBNe, hidx]
        exact (ih2 trivial j2).castS (by first | rfl | simp) (by simp [upd, ins, subF, lookA])
    · intro j2 _
      rw [List.take_length]
      cases hA : anyL c l f (i + 1)
      · rw [hA] at ih
        simp -implicitDefEqProofs (maxSteps := 2000000) (disch := omega) only [go_sem, reduceCtorEq, Nat.reduceAdd, Nat.reduceSub, Nat.reduceMul, Nat.reduceLT, Nat.reduceLeDiff, Nat.reduceEqDiff, Nat.reduceBEq, Int.reduceToNat, Int.reduceLT, Int.reduceLE, Int.reduceEq, Int.reduceNeg, Int.reduceAdd, Int.reduceSub, Int.reduceMul, ↓reduceIte, Int.reduceBEq, Int.reduceBNe]
        exact (ih trivial (j ++ j2)).castS (by simp) (by simp [upd, ins, subF, lookA])
      · rw [hA] at ih
        simp -implicitDefEqProofs (maxSteps := 2000000) (disch := omega) only [go_sem, reduceCtorEq, Nat.reduceAdd, Nat.reduceSub, Nat.reduceMul, Nat.reduceLT, Nat.reduceLeDiff, Nat.reduceEqDiff, Nat.reduceBEq, Int.reduceToNat, Int.reduceLT, Int.reduceLE, Int.reduceEq, Int.reduceNeg, Int.reduceAdd, Int.reduceSub, Int.reduceMul, ↓reduceIte, Int.reduceBEq, Int.reduceBNe]
        exact (ih trivial (j ++ j2)).castS (by simp) (by simp [upd, ins, subF, lookA])
  · intro j _
    simp -implicitDefEqProofs (maxSteps := 2000000) (disch := omega) only [go_sem, reduceCtorEq, Nat.reduceAdd, Nat.reduceSub, Nat.reduceMul, Nat.reduceLT, Nat.reduceLeDiff, Nat.reduceEqDiff, Nat.reduceBEq, Int.reduceToNat, Int.reduceLT, Int.reduceLE, Int.reduceEq, Int.reduceNeg, Int.reduceAdd, Int.reduceSub, Int.reduceMul, ↓reduceIte, Int.reduceBEq, Int.reduceBNe, isv]
def rlooks_s := spw3 tyCat.w tyIss.w tyI.w fun c l f => if OkC c ∧ (∀ t ∈ l, okT c t) ∧ l.length ≤ 16 ∧ 0 ≤ f ∧ f < c.features then some (isv (looksL c l f 3)) else none
theorem rlooks_ok : ∀ xs v, rlooks_s xs = some v → PureV Tryz.prog 69 xs v :=
  spw3_ok fun c l f v h => by have h := someIf h; rw [← h.2]; exact rlooks_p c l f h.1.1 h.1.2.1 h.1.2.2.1 h.1.2.2.2.1 h.1.2.2.2.2
end Go.Proofs
set_option linter.unusedSimpArgs false
set_option linter.unusedVariables false
set_option maxRecDepth 100000
namespace Go.Proofs
open Go Go.Mu

def rcheckF_s := spw3 tyCat.w tyOld.w tyI.w fun c o f => if okCat c ∧ okOld o then some (.int .i64 (cfM c o f)) else none
theorem rcheckF_ok : ∀ xs v, rcheckF_s xs = some v → PureV Tryz.prog 68 xs v :=
  spw3_ok fun c o f v h => by have h := someIf h; rw [← h.2]; exact rcheckF_p c o f h.1.1 h.1.2
def fs121 (f : FuncId) (xs : List AV) : Option AV := if f = 69 then rlooks_s xs else if f = 68 then rcheckF_s xs else fs120 f xs
theorem fs121_ok : ∀ f xs v, fs121 f xs = some v → PureV Tryz.prog f xs v := by
  intro f xs v h
  unfold fs121 at h
  split at h
  · rename_i e; subst e; exact rlooks_ok _ _ h
  split at h
  · rename_i e; subst e; exact rcheckF_ok _ _ h
  exact fs120_ok _ _ _ h
attribute [go_sem] fs121 rlooks_s rcheckF_s
theorem pair_okT {c : Cat} {m : Made} (hC : OkC c) (h : m ∈ allMade c) : okT c m.pair := by
  obtain ⟨h1, h2, h3, _⟩ := pair_at hC h
  exact ⟨h1, h2, h3⟩
theorem looks_eq {c : Cat} {L : List Made} {f : Int} (hC : OkC c) (hL : ∀ m ∈ L, m ∈ allMade c) (h0 : 0 ≤ f) (h1 : f < c.features) : looksL c (L.map Made.pair) f 3 = valuesZ (fun m : Made => tg m.look f) L := by
  refine sorted_ext ?_ valuesZ_lt fun x => ?_
  · unfold looksL
    refine List.Pairwise.filter _ (List.pairwise_map.2 (List.pairwise_lt_range.imp ?_))
    intro a b h; omega
  · rw [valuesZ_mem]
    unfold looksL
    rw [List.mem_filter, List.mem_map]
    constructor
    · rintro ⟨⟨k, hk, rfl⟩, h⟩
      unfold anyL at h
      rw [List.any_eq_true] at h
      obtain ⟨t, ht, e⟩ := h
      obtain ⟨m, hm, rfl⟩ := List.mem_map.1 ht
      obtain ⟨_, _, _, _, g⟩ := pair_at hC (hL m hm)
      exact ⟨m, hm, by rw [← g f h0 h1]; exact of_decide_eq_true e⟩
    · rintro ⟨m, hm, rfl⟩
      obtain ⟨_, _, _, g6, g⟩ := pair_at hC (hL m hm)
      obtain ⟨_, hb⟩ := okT_len hC (pair_okT hC (hL m hm))
      have e := g f h0 h1
      obtain ⟨n, rfl⟩ : ∃ n : Nat, f = n := ⟨f.toNat, by omega⟩
      have hn : n < (lookAt c m.pair).length := by omega
      have hx := hb _ (List.getElem_mem hn)
      rw [← tgE hn, e] at hx
      refine ⟨⟨(tg m.look (n : Int) - 1).toNat, List.mem_range.2 (by omega), by omega⟩, ?_⟩
      unfold anyL
      rw [List.any_eq_true]
      exact ⟨m.pair, List.mem_map.2 ⟨m, hm, rfl⟩, decide_eq_true e⟩
set_option maxHeartbeats 4000000 in
theorem rKnown_p (c : Cat) (o : Old) (f : Int) (hc : okCat c) (ho : okOld o) : PureV Tryz.prog 31 [c.av, o.av, .int .i64 f] (.tup [isv (knownFM c o f).1, .int .i64 (knownFM c o f).2]) := by
  refine PureV.of_ev (E := Tryz.E 31 (fun _ => ([], [])) fs121) (Tryz.envOK 31 (fun _ => ([], [])) fs121 fs121_ok) (isvI_plain) Tryz.kp31 Tryz.func31 rfl (by kernel_rfl) (by simp [Tryz.E]) (Callable.of Tryz.func31 (by kernel_rfl) (by kernel_rfl)) (by kernel_rfl) ?_
  intro σ
  simp only [Cat.av, Old.av]
  by_cases hcf : cfM c o f = 0
  · have hvf : ckOld c o = 0 ∧ featE c f = 0 := by
      unfold cfM at hcf
      split at hcf
      · rename_i h; exact absurd hcf h
      · rename_i h; exact ⟨by simpa using h, hcf⟩
    obtain ⟨hv, hfE⟩ := hvf
    obtain ⟨hC, hO⟩ := okO_of_ck hv
    have hfe := hC.features
    have hfb : 0 ≤ f ∧ f < c.features := by
      unfold featE at hfE
      split at hfE
      · omega
      · cases hfE
    have hkw : knownM c o [featE c f] = knownM c o [] := by rw [hfE]; unfold knownM; simp [firstE]
    by_cases hk : (knownM c o []).2 = 0
    · obtain ⟨_, hne, hke⟩ := knownM_ok hk
      have hlen := truthsM_len (o := o) hC
      have hr : knownFM c o f = (looksL c ((truthsM c o).map Made.pair) f 3, 0) := by
        unfold knownFM; rw [hkw, if_pos hk, looks_eq hC (fun m hm => (mem_truths.1 hm).1) hfb.1 hfb.2]
      have hfi : fitsM c o = ((truthsM c o).map Made.pair, 0) := by unfold fitsM; rw [if_pos hk]
      have hT : (∀ t ∈ (truthsM c o).map Made.pair, okT c t) = True := eq_true fun t ht => by
        obtain ⟨m, hm, rfl⟩ := List.mem_map.1 ht; exact pair_okT hC (mem_truths.1 hm).1
      have hpl : ((truthsM c o).map Made.pair).length ≤ 16 := by rw [List.length_map]; exact hlen
      rw [hr]
      clear hr hkw hke hne hk
      generalize (truthsM c o).map Made.pair = B at hfi hT hpl ⊢
      obtain ⟨hf0, hf1⟩ := hfb
      simp -implicitDefEqProofs (maxSteps := 2000000) (disch := omega) only [go_sem, reduceCtorEq, Nat.reduceAdd, Nat.reduceSub, Nat.reduceMul, Nat.reduceLT, Nat.reduceLeDiff, Nat.reduceEqDiff, Nat.reduceBEq, Int.reduceToNat, Int.reduceLT, Int.reduceLE, Int.reduceEq, Int.reduceNeg, Int.reduceAdd, Int.reduceSub, Int.reduceMul, ↓reduceIte, Int.reduceBEq, Int.reduceBNe, Cat_eta, Old_eta, hc, ho, hcf, hfi, hC, hT, hpl, hf0, hf1, isv]
    · have hr : knownFM c o f = ([], (knownM c o []).2) := by unfold knownFM; rw [hkw, if_neg hk]
      have hf := @fits_known c o
      rw [hr]
      simp -implicitDefEqProofs (maxSteps := 2000000) (disch := omega) only [go_sem, reduceCtorEq, Nat.reduceAdd, Nat.reduceSub, Nat.reduceMul, Nat.reduceLT, Nat.reduceLeDiff, Nat.reduceEqDiff, Nat.reduceBEq, Int.reduceToNat, Int.reduceLT, Int.reduceLE, Int.reduceEq, Int.reduceNeg, Int.reduceAdd, Int.reduceSub, Int.reduceMul, ↓reduceIte, Int.reduceBEq, Int.reduceBNe, Cat_eta, Old_eta, hc, ho, hcf, hf, hk, isv]
  · have hr : knownFM c o f = ([], cfM c o f) := by
      have hkw : knownM c o [featE c f] = ([], cfM c o f) := by
        unfold cfM at hcf ⊢
        unfold knownM
        split at hcf
        · rename_i h; rw [if_pos h, if_pos h]
        · rename_i h
          rw [if_neg h, if_neg h]
          have e1 : firstE id [featE c f] = featE c f := by simp [firstE, hcf]
          rw [e1, if_pos hcf]
      unfold knownFM; rw [hkw, if_neg hcf]
    rw [hr]
    simp -implicitDefEqProofs (maxSteps := 2000000) (disch := omega) only [go_sem, reduceCtorEq, Nat.reduceAdd, Nat.reduceSub, Nat.reduceMul, Nat.reduceLT, Nat.reduceLeDiff, Nat.reduceEqDiff, Nat.reduceBEq, Int.reduceToNat, Int.reduceLT, Int.reduceLE, Int.reduceEq, Int.reduceNeg, Int.reduceAdd, Int.reduceSub, Int.reduceMul, ↓reduceIte, Int.reduceBEq, Int.reduceBNe, Cat_eta, Old_eta, hc, ho, hcf, isv]
def rKnown_s := spw3 tyCat.w tyOld.w tyI.w fun c o f => if okCat c ∧ okOld o then some (.tup [isv (knownFM c o f).1, .int .i64 (knownFM c o f).2]) else none
theorem rKnown_ok : ∀ xs v, rKnown_s xs = some v → PureV Tryz.prog 31 xs v :=
  spw3_ok fun c o f v h => by have h := someIf h; rw [← h.2]; exact rKnown_p c o f h.1.1 h.1.2
end Go.Proofs
