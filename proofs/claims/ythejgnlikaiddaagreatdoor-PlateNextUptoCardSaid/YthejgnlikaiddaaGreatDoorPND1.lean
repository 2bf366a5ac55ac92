/- Texts of a proof: lemmas. -/
import Derived.Test.YthejgnlikaiddaaGreatDoorPTA1
import Derived.Test.YthejgnlikaiddaaGreatDoorPNA1
set_option linter.unusedSimpArgs false
set_option linter.unusedVariables false
set_option maxRecDepth 100000
namespace Go.Proofs
open Go Go.Mu

/-! The reference's With, worst and Lost. -/
def withP (c : Cat) (l : List (List Int)) (f v : Int) : List (List Int) := l.filter fun t => decide (tg (lookAt c t) f = v)
def Tryz.ordW : Nat → List Nat × List (Nat × List Nat)
  | 5 => ([0, 0, 0, 6, 14, 31, 0, 127, 255, 0, 1023], [(0, []), (1, []), (2, []), (3, []), (4, []), (5, [5]), (6, []), (7, []), (8, []), (9, []), (10, [])])
  | _ => ([], [])
theorem Tryz.ordW_5 : Tryz.ordW 5 = ([0, 0, 0, 6, 14, 31, 0, 127, 255, 0, 1023], [(0, []), (1, []), (2, []), (3, []), (4, []), (5, [5]), (6, []), (7, []), (8, []), (9, []), (10, [])]) := rfl
attribute [go_sem] Tryz.ordW_5
set_option maxHeartbeats 40000000 in
theorem rWith_p (c : Cat) (l : List (List Int)) (f v : Int) (hC : OkC c) (hT : ∀ t ∈ l, okT c t) (hl : l.length ≤ 16) (h0 : 0 ≤ f) (h1 : f < c.features) : PureV Tryz.prog 105 [c.av, .list .no 1 (l.map isv), .int .i64 f, .int .i64 v] (.list .no 1 ((withP c l f v).map isv)) := by
  refine PureV.of_ev (E := Tryz.E 36 Tryz.ordW fs120) (Tryz.envOK 36 Tryz.ordW fs120 fs120_ok) (.map fun x _ => .cells_list (Plain.ints (xs := x))) Tryz.kp105 Tryz.func105 rfl (by kernel_rfl) (by simp [Tryz.E]) (Callable.of Tryz.func105 (by kernel_rfl) (by kernel_rfl)) (by kernel_rfl) ?_
  intro σ
  have hcav : c.av = .agg [.int .i64 c.features, .list .no 3 (c.models.map Model.av)] := rfl
  rw [hcav]
  simp -implicitDefEqProofs (maxSteps := 2000000) (disch := omega) only [go_sem, reduceCtorEq, Nat.reduceAdd, Nat.reduceSub, Nat.reduceMul, Nat.reduceLT, Nat.reduceLeDiff, Nat.reduceEqDiff, Nat.reduceBEq, Int.reduceToNat, Int.reduceLT, Int.reduceLE, Int.reduceEq, Int.reduceNeg, Int.reduceAdd, Int.reduceSub, Int.reduceMul, ↓reduceIte, Int.reduceBEq, Int.reduceBNe]
  refine ARun.ghost 9 1 (sz0 := 0) rfl (by simp [lookA]) ?_
  simp only [ins, ↓reduceIte, List.append_assoc, List.cons_append, List.nil_append, List.length_append, List.length_cons, List.length_nil, Nat.zero_add, Nat.reduceEqDiff]
  refine ARun.forG (Tryz.envOK 36 Tryz.ordW fs120 fs120_ok) l.length (fun _ => True) (fun k => [(9, .list (.own (σ.length + 1)) 1 ((withP c (l.take k) f v).map isv)), (10, .int .i64 k)]) (fun k j => σ ++ (.cells [.int .i64 c.features, .list .no 3 (c.models.map Model.av)] :: .tail (withP c (l.take k) f v).length 1 :: j)) [] (by kernel_rfl) (by kernel_rfl) (by simp [withP]) (by simp [upd, ins, subF, lookA, withP]) trivial ?_ ?_
  · intro K2 Q2 hK2 k j2 hk _ ih2
    have hTk := hT _ (List.getElem_mem hk)
    obtain ⟨g6, _⟩ := okT_len hC hTk
    obtain ⟨g1, ⟨g2, g3⟩, ⟨g4, g5⟩⟩ := hTk
    have hst : withP c (l.take (k + 1)) f v = withP c (l.take k) f v ++ if tg (lookAt c l[k]) f = v then [l[k]] else [] := by
      unfold withP; rw [List.take_succ_eq_append_getElem hk, List.filter_append]
      by_cases h : tg (lookAt c l[k]) f = v <;> simp [h]
    have hidx : idx (l.map isv) (k : Int) = some (.list .no 1 (l[k].map (.int .i64))) := idx_nat hk
    have hwl : (withP c (l.take k) f v).length ≤ 16 := by
      unfold withP; refine Nat.le_trans (List.length_filter_le _ _) ?_; rw [List.length_take]; omega
    rw [hst] at ih2
    generalize withP c (l.take k) f v = D at ih2 hwl ⊢
    have hfi : idx ((lookAt c (l[k])).map (AV.int .i64)) f = some (.int .i64 (tg (lookAt c (l[k])) f)) := by
      obtain ⟨n, rfl⟩ : ∃ n : Nat, f = n := ⟨f.toNat, by omega⟩
      have hn : n < (lookAt c (l[k])).length := by omega
      rw [idx_nat hn, tgE hn]
    clear hst hT
    generalize l[k] = t at g1 g2 g3 g4 g5 g6 hidx hfi ih2
    generalize tg (lookAt c t) f = w at hfi ih2
    by_cases hw : w = v
    · rw [if_pos hw] at ih2
      simp -implicitDefEqProofs (maxSteps := 2000000) (disch := omega) only [go_sem, reduceCtorEq, Nat.reduceAdd, Nat.reduceSub, Nat.reduceMul, Nat.reduceLT, Nat.reduceLeDiff, Nat.reduceEqDiff, Nat.reduceBEq, Int.reduceToNat, Int.reduceLT, Int.reduceLE, Int.reduceEq, Int.reduceNeg, Int.reduceAdd, Int.reduceSub, Int.reduceMul, ↓reduceIte, Int.reduceBEq, Int.reduceBNe, hidx, Cat_eta, hC, g1, g2, g3, g4, g5, isv, hfi]
      exact (ih2 trivial j2).castS (by first | rfl | simp) (by simp [upd, ins, subF, lookA, isv])
    · rw [if_neg hw, List.append_nil] at ih2
      simp -implicitDefEqProofs (maxSteps := 2000000) (disch := omega) only [go_sem, reduceCtorEq, Nat.reduceAdd, Nat.reduceSub, Nat.reduceMul, Nat.reduceLT, Nat.reduceLeDiff, Nat.reduceEqDiff, Nat.reduceBEq, Int.reduceToNat, Int.reduceLT, Int.reduceLE, Int.reduceEq, Int.reduceNeg, Int.reduceAdd, Int.reduceSub, Int.reduceMul, ↓reduceIte, Int.reduceBEq, Int.reduceBNe, hidx, Cat_eta, hC, g1, g2, g3, g4, g5, isv, hfi]
      exact (ih2 trivial j2).castS (by first | rfl | simp) (by simp [upd, ins, subF, lookA])
  · intro j _
    rw [List.take_length]
    simp -implicitDefEqProofs (maxSteps := 2000000) (disch := omega) only [go_sem, reduceCtorEq, Nat.reduceAdd, Nat.reduceSub, Nat.reduceMul, Nat.reduceLT, Nat.reduceLeDiff, Nat.reduceEqDiff, Nat.reduceBEq, Int.reduceToNat, Int.reduceLT, Int.reduceLE, Int.reduceEq, Int.reduceNeg, Int.reduceAdd, Int.reduceSub, Int.reduceMul, ↓reduceIte, Int.reduceBEq, Int.reduceBNe]
def rWith_s := spw4 tyCat.w tyIss.w tyI.w tyI.w fun c l f v => if OkC c ∧ (∀ t ∈ l, okT c t) ∧ l.length ≤ 16 ∧ 0 ≤ f ∧ f < c.features then some (.list .no 1 ((withP c l f v).map isv)) else none
theorem rWith_ok : ∀ xs v, rWith_s xs = some v → PureV Tryz.prog 105 xs v :=
  spw4_ok fun c l f v w h => by have h := someIf h; rw [← h.2]; exact rWith_p c l f v h.1.1 h.1.2.1 h.1.2.2.1 h.1.2.2.2.1 h.1.2.2.2.2
def fs126 (f : FuncId) (xs : List AV) : Option AV := if f = 105 then rWith_s xs else if f = 54 then rmodels_s xs else fs121 f xs
theorem fs126_ok : ∀ f xs v, fs126 f xs = some v → PureV Tryz.prog f xs v := by
  intro f xs v h
  unfold fs126 at h
  split at h
  · rename_i e; subst e; exact rWith_ok _ _ h
  split at h
  · rename_i e; subst e; exact rmodels_ok _ _ h
  exact fs121_ok _ _ _ h
attribute [go_sem] fs126 rWith_s rmodels_s
/-- The greatest number of truths that one of the first looks leaves. -/
def wP (c : Cat) (l : List (List Int)) (f : Int) : Nat → Nat
  | 0 => 0
  | k + 1 => max (wP c l f k) (withP c l f ((k : Int) + 1)).length
theorem withP_len {c : Cat} {l : List (List Int)} {f v : Int} : (withP c l f v).length ≤ l.length := List.length_filter_le _ _
theorem wP_le {c : Cat} {l : List (List Int)} {f : Int} : ∀ {k}, wP c l f k ≤ l.length
  | 0 => Nat.zero_le _
  | k + 1 => by have := wP_le (c := c) (l := l) (f := f) (k := k); have := withP_len (c := c) (l := l) (f := f) (v := (k : Int) + 1); simp only [wP]; omega
theorem rworst_p (c : Cat) (l : List (List Int)) (f : Int) (hC : OkC c) (hT : ∀ t ∈ l, okT c t) (hl : l.length ≤ 16) (h0 : 0 ≤ f) (h1 : f < c.features) : PureV Tryz.prog 83 [c.av, .list .no 1 (l.map isv), .int .i64 f] (.int .i64 (wP c l f 3 : Nat)) := by
  refine PureV.of_ev (E := Tryz.E 22 (fun _ => ([], [])) fs126) (Tryz.envOK 22 (fun _ => ([], [])) fs126 fs126_ok) (.int) Tryz.kp83 Tryz.func83 rfl (by kernel_rfl) (by simp [Tryz.E]) (Callable.of Tryz.func83 (by kernel_rfl) (by kernel_rfl)) (by kernel_rfl) ?_
  intro σ
  have hcav : c.av = .agg [.int .i64 c.features, .list .no 3 (c.models.map Model.av)] := rfl
  rw [hcav]
  have hTe : (∀ t ∈ l, okT c t) = True := eq_true hT
  simp -implicitDefEqProofs (maxSteps := 2000000) (disch := omega) only [go_sem, reduceCtorEq, Nat.reduceAdd, Nat.reduceSub, Nat.reduceMul, Nat.reduceLT, Nat.reduceLeDiff, Nat.reduceEqDiff, Nat.reduceBEq, Int.reduceToNat, Int.reduceLT, Int.reduceLE, Int.reduceEq, Int.reduceNeg, Int.reduceAdd, Int.reduceSub, Int.reduceMul, ↓reduceIte, Int.reduceBEq, Int.reduceBNe]
  refine ARun.forG (Tryz.envOK 22 (fun _ => ([], [])) fs126 fs126_ok) 3 (fun _ => True) (fun k => [(7, .int .i64 (wP c l f k : Nat)), (8, .int .i64 ((k : Int) + 1))]) (fun k j => σ ++ (.cells [.int .i64 c.features, .list .no 3 (c.models.map Model.av)] :: j)) [] (by kernel_rfl) (by kernel_rfl) rfl (by simp [upd, ins, subF, lookA, wP]) trivial ?_ ?_
  · intro K Q' hK k j hk _ ih
    have hw := wP_le (c := c) (l := l) (f := f) (k := k)
    have hwl := withP_len (c := c) (l := l) (f := f) (v := (k : Int) + 1)
    simp only [wP] at ih
    generalize wP c l f k = n at hw ih ⊢
    have hll : ((withP c l f ((k : Int) + 1)).map isv).length = (withP c l f ((k : Int) + 1)).length := List.length_map _
    generalize hW : withP c l f ((k : Int) + 1) = W at hwl hll ih
    simp -implicitDefEqProofs (maxSteps := 2000000) (disch := omega) only [go_sem, reduceCtorEq, Nat.reduceAdd, Nat.reduceSub, Nat.reduceMul, Nat.reduceLT, Nat.reduceLeDiff, Nat.reduceEqDiff, Nat.reduceBEq, Int.reduceToNat, Int.reduceLT, Int.reduceLE, Int.reduceEq, Int.reduceNeg, Int.reduceAdd, Int.reduceSub, Int.reduceMul, ↓reduceIte, Int.reduceBEq, Int.reduceBNe, Cat_eta, hC, hTe, hW, hll, maxA, maxL]
    have hmx : (if n < W.length then (W.length : Int) else (n : Int)) = ((max n W.length : Nat) : Int) := by split <;> omega
    exact (ih trivial j).castS rfl (by simp [upd, ins, subF, lookA, hmx])
  · intro j _
    simp -implicitDefEqProofs (maxSteps := 2000000) (disch := omega) only [go_sem, reduceCtorEq, Nat.reduceAdd, Nat.reduceSub, Nat.reduceMul, Nat.reduceLT, Nat.reduceLeDiff, Nat.reduceEqDiff, Nat.reduceBEq, Int.reduceToNat, Int.reduceLT, Int.reduceLE, Int.reduceEq, Int.reduceNeg, Int.reduceAdd, Int.reduceSub, Int.reduceMul, ↓reduceIte, Int.reduceBEq, Int.reduceBNe]
def rworst_s := spw3 tyCat.w tyIss.w tyI.w fun c l f => if OkC c ∧ (∀ t ∈ l, okT c t) ∧ l.length ≤ 16 ∧ 0 ≤ f ∧ f < c.features then some (.int .i64 (wP c l f 3 : Nat)) else none
theorem rworst_ok : ∀ xs v, rworst_s xs = some v → PureV Tryz.prog 83 xs v :=
  spw3_ok fun c l f v h => by have h := someIf h; rw [← h.2]; exact rworst_p c l f h.1.1 h.1.2.1 h.1.2.2.1 h.1.2.2.2.1 h.1.2.2.2.2
def lostT (S : List Int) (n : Nat) : List Int := ((List.range n).filter fun (f : Nat) => decide (tg S f = 0)).map fun (f : Nat) => (f : Int)
theorem lostT_succ {S : List Int} {n : Nat} : lostT S (n + 1) = lostT S n ++ if tg S (n : Int) = 0 then [(n : Int)] else [] := by
  unfold lostT
  rw [List.range_succ, List.filter_append, List.map_append]
  by_cases h : tg S (n : Int) = 0 <;> simp [h]
theorem lostT_all {S : List Int} : lostL S = lostT S S.length := rfl
theorem lostT_len {S : List Int} {n : Nat} : (lostT S n).length ≤ n := by
  unfold lostT; rw [List.length_map]; refine Nat.le_trans (List.length_filter_le _ _) ?_; simp
theorem rLost_p (o : Old) (hs : o.seen.length ≤ 4) : PureV Tryz.prog 87 [o.av] (isv (lostL o.seen)) := by
  refine PureV.of_ev (E := Tryz.E 23 (fun _ => ([], [])) fs126) (Tryz.envOK 23 (fun _ => ([], [])) fs126 fs126_ok) (isv_plain _) Tryz.kp87 Tryz.func87 rfl (by kernel_rfl) (by simp [Tryz.E]) (Callable.of Tryz.func87 (by kernel_rfl) (by kernel_rfl)) (by kernel_rfl) ?_
  intro σ
  obtain ⟨S, P, ch⟩ := o
  simp only at hs
  simp only [Old.av, lostT_all]
  have hisv : isv S = .list .no 1 (S.map (.int .i64)) := rfl
  rw [hisv]
  simp -implicitDefEqProofs (maxSteps := 2000000) (disch := omega) only [go_sem, reduceCtorEq, Nat.reduceAdd, Nat.reduceSub, Nat.reduceMul, Nat.reduceLT, Nat.reduceLeDiff, Nat.reduceEqDiff, Nat.reduceBEq, Int.reduceToNat, Int.reduceLT, Int.reduceLE, Int.reduceEq, Int.reduceNeg, Int.reduceAdd, Int.reduceSub, Int.reduceMul, ↓reduceIte, Int.reduceBEq, Int.reduceBNe]
  refine ARun.ghost 3 1 (sz0 := 0) rfl (by simp [lookA]) ?_
  simp only [ins, ↓reduceIte, List.append_assoc, List.cons_append, List.nil_append, List.length_append, List.length_cons, List.length_nil, Nat.zero_add, Nat.reduceEqDiff]
  refine ARun.forG (Tryz.envOK 23 (fun _ => ([], [])) fs126 fs126_ok) S.length (fun _ => True) (fun k => [(3, .list (.own (σ.length + 1)) 1 ((lostT S k).map (.int .i64))), (4, .int .i64 k)]) (fun k j => σ ++ (.cells [.list .no 1 (S.map (.int .i64)), .str P, .int .i64 ch] :: .tail (lostT S k).length 1 :: j)) [] (by kernel_rfl) (by kernel_rfl) (by simp [lostT]) (by simp [upd, ins, subF, lookA, lostT]) trivial ?_ ?_
  · intro K Q' hK k j hk _ ih
    have hsi : idx (S.map (AV.int .i64)) (k : Int) = some (.int .i64 (tg S k)) := by rw [idx_nat hk, tgE hk]
    have hln := lostT_len (S := S) (n := k)
    rw [lostT_succ] at ih
    generalize lostT S k = D at ih hln ⊢
    generalize tg S (k : Int) = x at hsi ih
    by_cases hx : x = 0
    · rw [if_pos hx] at ih
      simp -implicitDefEqProofs (maxSteps := 2000000) (disch := omega) only [go_sem, reduceCtorEq, Nat.reduceAdd, Nat.reduceSub, Nat.reduceMul, Nat.reduceLT, Nat.reduceLeDiff, Nat.reduceEqDiff, Nat.reduceBEq, Int.reduceToNat, Int.reduceLT, Int.reduceLE, Int.reduceEq, Int.reduceNeg, Int.reduceAdd, Int.reduceSub, Int.reduceMul, ↓reduceIte, Int.reduceBEq, Int.reduceBNe, hsi]
      exact (ih trivial j).castS (by first | rfl | simp) (by simp [upd, ins, subF, lookA])
    · rw [if_neg hx, List.append_nil] at ih
      simp -implicitDefEqProofs (maxSteps := 2000000) (disch := omega) only [go_sem, reduceCtorEq, Nat.reduceAdd, Nat.reduceSub, Nat.reduceMul, Nat.reduceLT, Nat.reduceLeDiff, Nat.reduceEqDiff, Nat.reduceBEq, Int.reduceToNat, Int.reduceLT, Int.reduceLE, Int.reduceEq, Int.reduceNeg, Int.reduceAdd, Int.reduceSub, Int.reduceMul, ↓reduceIte, Int.reduceBEq, Int.reduceBNe, hsi]
      exact (ih trivial j).castS (by first | rfl | simp) (by simp [upd, ins, subF, lookA])
  · intro j _
    simp -implicitDefEqProofs (maxSteps := 2000000) (disch := omega) only [go_sem, reduceCtorEq, Nat.reduceAdd, Nat.reduceSub, Nat.reduceMul, Nat.reduceLT, Nat.reduceLeDiff, Nat.reduceEqDiff, Nat.reduceBEq, Int.reduceToNat, Int.reduceLT, Int.reduceLE, Int.reduceEq, Int.reduceNeg, Int.reduceAdd, Int.reduceSub, Int.reduceMul, ↓reduceIte, Int.reduceBEq, Int.reduceBNe, isv]
def rLost_s := spw1 tyOld.w fun o => if o.seen.length ≤ 4 then some (isv (lostL o.seen)) else none
theorem rLost_ok : ∀ xs v, rLost_s xs = some v → PureV Tryz.prog 87 xs v :=
  spw1_ok fun o v h => by have h := someIf h; rw [← h.2]; exact rLost_p o h.1
def fs127 (f : FuncId) (xs : List AV) : Option AV := if f = 83 then rworst_s xs else if f = 87 then rLost_s xs else fs126 f xs
theorem fs127_ok : ∀ f xs v, fs127 f xs = some v → PureV Tryz.prog f xs v := by
  intro f xs v h
  unfold fs127 at h
  split at h
  · rename_i e; subst e; exact rworst_ok _ _ h
  split at h
  · rename_i e; subst e; exact rLost_ok _ _ h
  exact fs126_ok _ _ _ h
attribute [go_sem] fs127 rworst_s rLost_s
end Go.Proofs
set_option linter.unusedSimpArgs false
set_option linter.unusedVariables false
set_option maxRecDepth 100000
namespace Go.Proofs
open Go Go.Mu

/-! The reference's Decided, plain. -/
def decP (c : Cat) : Nat → List (List Int) → List Int → Bool
  | 0, l, _ => decide ((dedL (l.map fun t => tg t 0)).length < 2)
  | n + 1, l, O => decide ((dedL (l.map fun t => tg t 0)).length < 2) || (List.range O.length).any fun i => [1, 2, 3].all fun v => decP c n (withP c l (tg O i) v) (O.take i ++ O.drop (i + 1))
theorem withP_pair {c : Cat} {T : List Made} {f v : Int} (hC : OkC c) (hT : ∀ m ∈ T, m ∈ allMade c) (h0 : 0 ≤ f) (h1 : f < c.features) : withP c (T.map Made.pair) f v = (partL T f v).map Made.pair := by
  unfold withP partL
  rw [List.filter_map]
  congr 1
  refine List.filter_congr fun m hm => ?_
  obtain ⟨_, _, _, _, g⟩ := pair_at hC (hT m hm)
  simp only [Function.comp]
  rw [g f h0 h1]
/-- Truths of a catalogue in order. -/
structure OkTr (c : Cat) (T : List Made) : Prop where
  all : ∀ m ∈ T, m ∈ allMade c
  asc : (T.map Made.model).Pairwise (· ≤ ·)
theorem OkTr.part {c : Cat} {T : List Made} (h : OkTr c T) (f v : Int) : OkTr c (partL T f v) := by
  refine ⟨fun m hm => h.all m (List.mem_filter.1 hm).1, ?_⟩
  have := h.asc
  rw [List.pairwise_map] at this ⊢
  exact List.Pairwise.filter _ this
theorem mods_eq {c : Cat} {T : List Made} (h : OkTr c T) : (dedL ((T.map Made.pair).map fun t => tg t 0)).length = modN T := by
  rw [pairs_mod]
  obtain ⟨h1, h2⟩ := dedL_spec h.asc
  unfold modN
  rw [sorted_ext h1 valuesZ_lt fun x => by rw [h2 x, valuesZ_mem, List.mem_map]]
theorem modN_pos {T : List Made} (h : T ≠ []) : 0 < modN T := List.length_pos_iff.2 (valuesZ_ne h)
theorem modN_nil : modN [] = 0 := by
  have h := @valuesZ_len Made Made.model []
  unfold modN; simpa using h
theorem foldS_zero {g : List Made → Nat} {T : List Made} : ∀ {F : List Int}, F.foldl (needS g T) 0 = 0
  | [] => rfl
  | f :: F => by rw [List.foldl_cons]; unfold needS; rw [if_pos (.inl rfl)]; exact foldS_zero
/-- The least number is that of some feature. -/
theorem foldS_iff {g : List Made → Nat} {T : List Made} : ∀ {F : List Int} {b n : Nat}, 0 < b → (F.foldl (needS g T) b ≤ n ↔ b ≤ n ∨ ∃ f ∈ F, (valF f T).length ≠ 1 ∧ worstF g T f + 1 ≤ n)
  | [], b, n, _ => by simp
  | f :: F, b, n, hb => by
    rw [List.foldl_cons]
    have e : needS g T b f = if b = 0 ∨ (valF f T).length = 1 then b else min b (worstF g T f + 1) := rfl
    rw [e]
    by_cases h1 : (valF f T).length = 1
    · rw [if_pos (.inr h1)]
      rw [show F.foldl (needS g T) b ≤ n ↔ _ from foldS_iff hb]
      constructor
      · rintro (h | ⟨f', hf', h⟩)
        · exact .inl h
        · exact .inr ⟨f', List.mem_cons_of_mem _ hf', h⟩
      · rintro (h | ⟨f', hf', h⟩)
        · exact .inl h
        · rcases List.mem_cons.1 hf' with rfl | hf'
          · exact absurd h1 h.1
          · exact .inr ⟨f', hf', h⟩
    · rw [if_neg (by omega)]
      rw [show F.foldl (needS g T) (min b (worstF g T f + 1)) ≤ n ↔ _ from foldS_iff (by omega)]
      constructor
      · rintro (h | ⟨f', hf', h⟩)
        · by_cases h2 : b ≤ n
          · exact .inl h2
          · exact .inr ⟨f, by simp, h1, by omega⟩
        · exact .inr ⟨f', List.mem_cons_of_mem _ hf', h⟩
      · rintro (h | ⟨f', hf', h⟩)
        · exact .inl (by omega)
        · rcases List.mem_cons.1 hf' with rfl | hf'
          · exact .inl (by omega)
          · exact .inr ⟨f', hf', h⟩
theorem need_iff {F : List Int} {T : List Made} {n : Nat} (hT : T ≠ []) (hn : n < 5) : needL F T ≤ n ↔ modN T = 1 ∨ ∃ f ∈ F, (valF f T).length ≠ 1 ∧ worstF (needL F) T f + 1 ≤ n := by
  rw [needL_eq hT]
  by_cases hm : modN T = 1
  · rw [if_pos hm, foldS_zero]; simp [hm]
  · rw [if_neg hm, foldS_iff (by omega)]
    constructor
    · rintro (h | h)
      · omega
      · exact .inr h
    · rintro (h | h)
      · exact absurd h hm
      · exact .inr h
theorem worst_le {g : List Made → Nat} {T : List Made} {f : Int} {n : Nat} : worstF g T f ≤ n ↔ ∀ v ∈ valF f T, g (partL T f v) ≤ n := by
  unfold worstF
  constructor
  · intro h v hv
    have : g (partL T f v) ≤ _ := foldl_max_le (l := (valF f T).map fun v => g (partL T f v)) (b := 0) (.inl (List.mem_map.2 ⟨v, hv, rfl⟩))
    omega
  · intro h
    rcases foldl_max_mem (l := (valF f T).map fun v => g (partL T f v)) (b := 0) with h1 | h1
    · omega
    · obtain ⟨v, hv, e⟩ := List.mem_map.1 h1
      rw [← e]; exact h v hv
theorem part_const {T : List Made} {f v : Int} (h : v ∈ valF f T) : (valF f (partL T f v)).length = 1 := by
  have : valF f (partL T f v) = [v] := sorted_ext valuesZ_lt (List.pairwise_singleton _ _) fun x => by
    rw [valF_mem, List.mem_singleton]
    constructor
    · rintro ⟨m, hm, rfl⟩; exact of_decide_eq_true (List.mem_filter.1 hm).2
    · rintro rfl; obtain ⟨m, hm, e⟩ := valF_mem.1 h; exact ⟨m, List.mem_filter.2 ⟨hm, decide_eq_true e⟩, e⟩
  rw [this]; rfl
theorem const_part {T : List Made} {f g v : Int} (h : (valF f T).length = 1) (hv : v ∈ valF g T) : (valF f (partL T g v)).length = 1 := by
  obtain ⟨x, hx⟩ := List.length_eq_one_iff.1 h
  have hall : ∀ m ∈ T, tg m.look f = x := fun m hm => by
    have : tg m.look f ∈ valF f T := valF_mem.2 ⟨m, hm, rfl⟩
    rw [hx] at this; simpa using this
  obtain ⟨m, hm⟩ := List.exists_mem_of_ne_nil _ (partL_ne hv)
  have : valF f (partL T g v) = [x] := sorted_ext valuesZ_lt (List.pairwise_singleton _ _) fun y => by
    rw [valF_mem, List.mem_singleton]
    constructor
    · rintro ⟨m, hm, rfl⟩; exact hall m (List.mem_filter.1 hm).1
    · rintro rfl; exact ⟨m, hm, hall m (List.mem_filter.1 hm).1⟩
  rw [this]; rfl
theorem part_self {T : List Made} {f v : Int} (h : (valF f T).length = 1) (hv : v ∈ valF f T) : partL T f v = T := by
  obtain ⟨x, hx⟩ := List.length_eq_one_iff.1 h
  rw [hx] at hv
  have hvx : v = x := by simpa using hv
  unfold partL
  refine List.filter_eq_self.2 fun m hm => ?_
  have : tg m.look f ∈ valF f T := valF_mem.2 ⟨m, hm, rfl⟩
  rw [hx] at this
  have e : tg m.look f = x := by simpa using this
  exact decide_eq_true (by rw [e, hvx])
theorem part_nil {T : List Made} {f v : Int} (h : v ∉ valF f T) : partL T f v = [] := by
  unfold partL
  rw [List.filter_eq_nil_iff]
  intro m hm e
  exact h (valF_mem.2 ⟨m, hm, of_decide_eq_true e⟩)
/-- The features that are left: all others are the same in all truths. -/
structure OkOp (c : Cat) (F O : List Int) (T : List Made) : Prop where
  sub : ∀ f ∈ O, f ∈ F
  rng : ∀ f ∈ F, 0 ≤ f ∧ f < c.features
  cst : ∀ f ∈ F, f ∉ O → (valF f T).length = 1
theorem OkOp.next {c : Cat} {F O : List Int} {T : List Made} (h : OkOp c F O T) {i : Nat} (hi : i < O.length) {v : Int} (hv : v ∈ valF O[i] T) : OkOp c F (O.take i ++ O.drop (i + 1)) (partL T O[i] v) := by
  refine ⟨fun f hf => ?_, h.rng, fun f hf hn => ?_⟩
  · rcases List.mem_append.1 hf with hf | hf
    · exact h.sub f (List.mem_of_mem_take hf)
    · exact h.sub f (List.mem_of_mem_drop hf)
  · by_cases e : f = O[i]
    · subst e; exact part_const hv
    · refine const_part (h.cst f hf fun hm => hn ?_) hv
      obtain ⟨k, hk, rfl⟩ := List.mem_iff_getElem.1 hm
      rcases Nat.lt_trichotomy k i with h1 | h1 | h1
      · exact List.mem_append_left _ (List.mem_iff_getElem.2 ⟨k, by rw [List.length_take]; omega, by rw [List.getElem_take]⟩)
      · subst h1; exact absurd rfl e
      · exact List.mem_append_right _ (List.mem_iff_getElem.2 ⟨k - (i + 1), by rw [List.length_drop]; omega, by rw [List.getElem_drop]; congr 1; omega⟩)
theorem look_rng {c : Cat} {T : List Made} (hC : OkC c) (hT : ∀ m ∈ T, m ∈ allMade c) {f v : Int} (h0 : 0 ≤ f) (h1 : f < c.features) (hv : v ∈ valF f T) : v = 1 ∨ v = 2 ∨ v = 3 := by
  obtain ⟨m, hm, rfl⟩ := valF_mem.1 hv
  obtain ⟨_, _, _, g6, g⟩ := pair_at hC (hT m hm)
  obtain ⟨_, hb⟩ := okT_len hC (pair_okT hC (hT m hm))
  obtain ⟨n, rfl⟩ : ∃ n : Nat, f = n := ⟨f.toNat, by omega⟩
  have hn : n < (lookAt c m.pair).length := by omega
  have hx := hb _ (List.getElem_mem hn)
  rw [← tgE hn, g _ h0 h1] at hx
  omega
theorem decP_nil {c : Cat} {n : Nat} {O : List Int} : decP c n [] O = true := by
  have e : (dedL ([] : List Int)).length = 0 := rfl
  cases n <;> simp [decP, e]
/-- What the reference asks is what the program reckons. -/
theorem decP_need {c : Cat} {F : List Int} (hC : OkC c) : ∀ (n : Nat) (T : List Made) (O : List Int), n < 5 → OkTr c T → T ≠ [] → OkOp c F O T → decP c n (T.map Made.pair) O = decide (needL F T ≤ n)
  | 0, T, O, _, hT, hne, hO => by
    have hp := modN_pos hne
    simp only [decP]
    rw [mods_eq hT, Bool.eq_iff_iff, decide_eq_true_eq, decide_eq_true_eq, need_iff hne (by omega)]
    constructor
    · intro h; exact .inl (by omega)
    · rintro (h | ⟨f, _, _, h⟩)
      · omega
      · omega
  | n + 1, T, O, hn, hT, hne, hO => by
    have hp := modN_pos hne
    simp only [decP]
    rw [mods_eq hT, Bool.eq_iff_iff, Bool.or_eq_true, decide_eq_true_eq, decide_eq_true_eq, need_iff hne hn, List.any_eq_true]
    have key : ∀ i (hi : i < O.length), ([1, 2, 3].all fun v => decP c n (withP c (T.map Made.pair) (tg O i) v) (O.take i ++ O.drop (i + 1))) = true ↔ worstF (needL F) T O[i] ≤ n := fun i hi => by
      have hr := hO.rng _ (hO.sub _ (List.getElem_mem hi))
      rw [tgE hi, worst_le, List.all_eq_true]
      have one : ∀ v ∈ valF O[i] T, (decP c n (withP c (T.map Made.pair) O[i] v) (O.take i ++ O.drop (i + 1)) = true ↔ needL F (partL T O[i] v) ≤ n) := fun v hv => by
        rw [withP_pair hC hT.all hr.1 hr.2, decP_need hC n _ _ (by omega) (hT.part _ _) (partL_ne hv) (hO.next hi hv), decide_eq_true_eq]
      constructor
      · intro h v hv
        exact (one v hv).1 (h v (by rcases look_rng hC hT.all hr.1 hr.2 hv with rfl | rfl | rfl <;> simp))
      · intro h v _
        by_cases hv : v ∈ valF O[i] T
        · exact (one v hv).2 (h v hv)
        · rw [withP_pair hC hT.all hr.1 hr.2, part_nil hv]; exact decP_nil
    constructor
    · rintro (h | ⟨i, hi, h⟩)
      · exact .inl (by omega)
      · rw [List.mem_range] at hi
        have hw := (key i hi).1 h
        by_cases h1 : (valF O[i] T).length = 1
        · obtain ⟨v, hv⟩ := List.length_eq_one_iff.1 h1
          have hvm : v ∈ valF O[i] T := by rw [hv]; simp
          have := worst_le.1 hw v hvm
          rw [part_self h1 hvm] at this
          exact (need_iff hne hn).1 (by omega)
        · exact .inr ⟨O[i], hO.sub _ (List.getElem_mem hi), h1, by omega⟩
    · rintro (h | ⟨f, hf, h1, h⟩)
      · exact .inl (by omega)
      · have hfo : f ∈ O := by
          apply Classical.byContradiction
          intro hno; exact h1 (hO.cst f hf hno)
        obtain ⟨i, hi, rfl⟩ := List.mem_iff_getElem.1 hfo
        exact .inr ⟨i, List.mem_range.2 hi, (key i hi).2 (by omega)⟩
/-- With all features that are left it is decided, or never. -/
theorem need_open {c : Cat} {F : List Int} (hC : OkC c) : ∀ (k : Nat) (T : List Made) (O : List Int), O.length ≤ k → OkTr c T → T ≠ [] → OkOp c F O T → needL F T < 5 → needL F T ≤ O.length
  | 0, T, O, hk, hT, hne, hO, h5 => by
    obtain rfl : O = [] := List.length_eq_zero_iff.1 (by omega)
    have h := (need_iff hne h5).1 (Nat.le_refl _)
    rcases h with h | ⟨f, hf, h1, _⟩
    · have := (need_iff (F := F) (n := 0) hne (by omega)).2 (.inl h); simpa using this
    · exact absurd (hO.cst f hf (by simp)) h1
  | k + 1, T, O, hk, hT, hne, hO, h5 => by
    have h := (need_iff hne h5).1 (Nat.le_refl _)
    rcases h with h | ⟨f, hf, h1, h⟩
    · have := (need_iff (F := F) (n := 0) hne (by omega)).2 (.inl h); omega
    · have hfo : f ∈ O := by
        apply Classical.byContradiction
        intro hno; exact h1 (hO.cst f hf hno)
      obtain ⟨i, hi, rfl⟩ := List.mem_iff_getElem.1 hfo
      have hl : (O.take i ++ O.drop (i + 1)).length = O.length - 1 := by rw [List.length_append, List.length_take, List.length_drop]; omega
      have hw : worstF (needL F) T O[i] ≤ O.length - 1 := worst_le.2 fun v hv => by
        have h6 := worst_le.1 (Nat.le_refl (worstF (needL F) T O[i])) v hv
        have := need_open hC k _ _ (by omega) (hT.part O[i] v) (partL_ne hv) (hO.next hi hv) (by omega)
        omega
      by_cases hO5 : O.length < 5
      · exact (need_iff hne hO5).2 (.inr ⟨O[i], hf, h1, by omega⟩)
      · omega
end Go.Proofs
set_option linter.unusedSimpArgs false
set_option linter.unusedVariables false
set_option maxRecDepth 100000
namespace Go.Proofs
open Go Go.Mu

/-! The reference's Decided, walked. -/
def decS (n : Nat) : List AV → Option AV := spw4 tyCat.w tyIss.w tyIs.w tyI.w fun c l O m => if OkC c ∧ (∀ t ∈ l, okT c t) ∧ l.length ≤ 16 ∧ (∀ f ∈ O, 0 ≤ f ∧ f < c.features) ∧ O.length ≤ 4 ∧ 0 ≤ m ∧ m < n then some (.bool (decP c m.toNat l O)) else none
theorem okT_two {c : Cat} {l : List (List Int)} (h : ∀ t ∈ l, okT c t) : (∀ t ∈ l, t.length = 2) = True := eq_true fun t ht => (h t ht).1
theorem withP_ok {c : Cat} {l : List (List Int)} {f v : Int} (h : ∀ t ∈ l, okT c t) : ∀ t ∈ withP c l f v, okT c t := fun t ht => h t (List.mem_filter.1 ht).1
theorem decP_few {c : Cat} {n : Nat} {l : List (List Int)} {O : List Int} (h : (dedL (l.map fun t => tg t 0)).length < 2) : decP c n l O = true := by
  cases n <;> simp [decP, h]
def allW (c : Cat) (n : Nat) (l : List (List Int)) (f : Int) (R : List Int) (k : Nat) : Bool := (List.range k).all fun (v : Nat) => decP c n (withP c l f ((v : Int) + 1)) R
theorem allW_succ {c : Cat} {n : Nat} {l : List (List Int)} {f : Int} {R : List Int} {k : Nat} : allW c n l f R (k + 1) = (allW c n l f R k && decP c n (withP c l f ((k : Int) + 1)) R) := by
  unfold allW; rw [List.range_succ, List.all_append]; simp
theorem allW_three {c : Cat} {n : Nat} {l : List (List Int)} {f : Int} {R : List Int} : allW c n l f R 3 = [1, 2, 3].all fun v => decP c n (withP c l f v) R := rfl
def Tryz.ordD : Nat → List Nat × List (Nat × List Nat)
  | 6 => Tryz.ord88 6
  | 11 => ([0, 1, 3, 3, 3, 3, 3, 99, 227, 3, 1019, 3, 3, 4099, 16383, 32767, 65535], [(0, []), (1, []), (2, []), (3, []), (4, []), (5, []), (6, []), (7, []), (8, []), (9, []), (10, [10]), (11, []), (12, []), (13, []), (14, [14]), (15, []), (16, [])])
  | _ => ([], [])
theorem Tryz.ordD_6 : Tryz.ordD 6 = Tryz.ord88 6 := rfl
theorem Tryz.ordD_11 : Tryz.ordD 11 = ([0, 1, 3, 3, 3, 3, 3, 99, 227, 3, 1019, 3, 3, 4099, 16383, 32767, 65535], [(0, []), (1, []), (2, []), (3, []), (4, []), (5, []), (6, []), (7, []), (8, []), (9, []), (10, [10]), (11, []), (12, []), (13, []), (14, [14]), (15, []), (16, [])]) := rfl
attribute [go_sem] Tryz.ordD_6 Tryz.ordD_11
set_option maxHeartbeats 40000000 in
theorem rDecided_step (n : Nat) (fsD : FuncId → List AV → Option AV) (fsD_ok : ∀ f xs v, fsD f xs = some v → PureV Tryz.prog f xs v) (hfd : ∀ f xs, fsD f xs = if f = 88 then decS n xs else fs127 f xs)
    (c : Cat) (l : List (List Int)) (O : List Int) (m : Nat) (hm : m ≤ n) (hn5 : n ≤ 5) (hC : OkC c) (hT : ∀ t ∈ l, okT c t) (hl : l.length ≤ 16) (hO : ∀ f ∈ O, 0 ≤ f ∧ f < c.features) (hOl : O.length ≤ 4) : PureV Tryz.prog 88 [c.av, .list .no 1 (l.map isv), isv O, .int .i64 m] (.bool (decP c m l O)) := by
  refine PureV.of_ev (E := Tryz.E 58 Tryz.ordD fsD) (Tryz.envOK 58 Tryz.ordD fsD fsD_ok) (.bool) Tryz.kp88 Tryz.func88 rfl (by kernel_rfl) (by simp [Tryz.E]) (Callable.of Tryz.func88 (by kernel_rfl) (by kernel_rfl)) (by kernel_rfl) ?_
  intro σ
  have hcav : c.av = .agg [.int .i64 c.features, .list .no 3 (c.models.map Model.av)] := rfl
  have hisO : isv O = .list .no 1 (O.map (.int .i64)) := rfl
  rw [hcav, hisO]
  have hT2 := okT_two hT
  have hdl : (dedL (l.map fun t => tg t 0)).length ≤ 16 := by
    have : ∀ xs : List Int, (dedL xs).length ≤ xs.length := fun xs => by
      have key : ∀ n (xs : List Int), xs.length = n → (dedL xs).length ≤ n := fun n => by
        induction n with
        | zero => intro xs e; rw [List.length_eq_zero_iff.1 e]; simp [dedL]
        | succ n ih =>
          intro xs e
          obtain ⟨ys, x, rfl⟩ : ∃ ys x, xs = ys ++ [x] := ⟨xs.dropLast, xs.getLast (fun h => by rw [h] at e; cases e), (List.dropLast_concat_getLast _).symm⟩
          have := ih ys (by simpa using e)
          rw [dedL_app]; unfold dedS
          split
          · omega
          · rw [List.length_append, List.length_singleton]; omega
      exact key _ xs rfl
    refine Nat.le_trans (this _) ?_
    rw [List.length_map]; exact hl
  by_cases hd : (dedL (l.map fun t => tg t 0)).length < 2
  · rw [decP_few hd]
    generalize hD : dedL (l.map fun t => tg t 0) = D at hd hdl
    simp -implicitDefEqProofs (maxSteps := 2000000) (disch := omega) only [go_sem, reduceCtorEq, Nat.reduceAdd, Nat.reduceSub, Nat.reduceMul, Nat.reduceLT, Nat.reduceLeDiff, Nat.reduceEqDiff, Nat.reduceBEq, Int.reduceToNat, Int.reduceLT, Int.reduceLE, Int.reduceEq, Int.reduceNeg, Int.reduceAdd, Int.reduceSub, Int.reduceMul, ↓reduceIte, Int.reduceBEq, Int.reduceBNe, hfd, Cat_eta, hT2, hl, hD, isv]
  · have hd2 : ¬ (dedL (l.map fun t => tg t 0)).length < 2 := hd
    generalize hD : dedL (l.map fun t => tg t 0) = D at hd hdl
    simp -implicitDefEqProofs (maxSteps := 2000000) (disch := omega) only [go_sem, reduceCtorEq, Nat.reduceAdd, Nat.reduceSub, Nat.reduceMul, Nat.reduceLT, Nat.reduceLeDiff, Nat.reduceEqDiff, Nat.reduceBEq, Int.reduceToNat, Int.reduceLT, Int.reduceLE, Int.reduceEq, Int.reduceNeg, Int.reduceAdd, Int.reduceSub, Int.reduceMul, ↓reduceIte, Int.reduceBEq, Int.reduceBNe, hfd, Cat_eta, hT2, hl, hD, isv]
    cases m with
    | zero =>
      refine ARun.forS (Tryz.envOK 58 Tryz.ordD fsD fsD_ok) 0 (fun _ => True) (fun i => [(9, .int .i64 i)]) (fun _ j => σ ++ (.cells [.int .i64 c.features, .list .no 3 (c.models.map Model.av)] :: j)) [] (by kernel_rfl) (by simp) (by simp [upd, ins, subF, lookA]) trivial (fun i j hi => by omega) ?_
      intro j _
      have hz : decP c 0 l O = false := by simp only [decP]; rw [hD]; exact decide_eq_false hd
      rw [hz]
      by_cases hOz : 0 < O.length
      · simp -implicitDefEqProofs (maxSteps := 2000000) (disch := omega) only [go_sem, reduceCtorEq, Nat.reduceAdd, Nat.reduceSub, Nat.reduceMul, Nat.reduceLT, Nat.reduceLeDiff, Nat.reduceEqDiff, Nat.reduceBEq, Int.reduceToNat, Int.reduceLT, Int.reduceLE, Int.reduceEq, Int.reduceNeg, Int.reduceAdd, Int.reduceSub, Int.reduceMul, ↓reduceIte, Int.reduceBEq, Int.reduceBNe]
      · simp -implicitDefEqProofs (maxSteps := 2000000) (disch := omega) only [go_sem, reduceCtorEq, Nat.reduceAdd, Nat.reduceSub, Nat.reduceMul, Nat.reduceLT, Nat.reduceLeDiff, Nat.reduceEqDiff, Nat.reduceBEq, Int.reduceToNat, Int.reduceLT, Int.reduceLE, Int.reduceEq, Int.reduceNeg, Int.reduceAdd, Int.reduceSub, Int.reduceMul, ↓reduceIte, Int.reduceBEq, Int.reduceBNe]
    | succ m =>
      have hfin : decP c (m + 1) l O = (List.range O.length).any fun i => allW c m l (tg O i) (O.take i ++ O.drop (i + 1)) 3 := by
        simp only [decP]; rw [hD, decide_eq_false hd]; rfl
      refine ARun.forS (Tryz.envOK 58 Tryz.ordD fsD fsD_ok) O.length (fun i => ∀ k, k < i → allW c m l (tg O k) (O.take k ++ O.drop (k + 1)) 3 = false) (fun i => [(9, .int .i64 i)]) (fun _ j => σ ++ (.cells [.int .i64 c.features, .list .no 3 (c.models.map Model.av)] :: j)) [] (by kernel_rfl) (by simp) (by simp [upd, ins, subF, lookA]) (fun k hk => by omega) ?_ ?_
      · intro i j hi hP ih
        have hOi : idx (O.map (AV.int .i64)) (i : Int) = some (.int .i64 (tg O i)) := by rw [idx_nat hi, tgE hi]
        have hOr : 0 ≤ tg O (i : Int) ∧ tg O (i : Int) < c.features := by rw [tgE hi]; exact hO _ (List.getElem_mem hi)
        have htl : (List.take i (O.map (AV.int .i64))).length = i := by rw [List.length_take, List.length_map]; omega
        have hdl' : (List.drop (i + 1) (O.map (AV.int .i64))).length = O.length - (i + 1) := by rw [List.length_drop, List.length_map]
        have htn : ((i : Int) + 1).toNat = i + 1 := by omega
        simp -implicitDefEqProofs (maxSteps := 2000000) (disch := omega) only [go_sem, reduceCtorEq, Nat.reduceAdd, Nat.reduceSub, Nat.reduceMul, Nat.reduceLT, Nat.reduceLeDiff, Nat.reduceEqDiff, Nat.reduceBEq, Int.reduceToNat, Int.reduceLT, Int.reduceLE, Int.reduceEq, Int.reduceNeg, Int.reduceAdd, Int.reduceSub, Int.reduceMul, ↓reduceIte, Int.reduceBEq, Int.reduceBNe, htl, hdl', htn]
        have hR0 : ∃ R : List Int, R = O.take i ++ O.drop (i + 1) := ⟨_, rfl⟩
        obtain ⟨R, hR⟩ := hR0
        have hRe : (O.map (AV.int .i64)).take i ++ (O.map (AV.int .i64)).drop (i + 1) = R.map (AV.int .i64) := by rw [hR, List.map_append, List.map_take, List.map_drop]
        have hRl : i + (O.length - (i + 1)) = R.length := by rw [hR, List.length_append, List.length_take, List.length_drop]; omega
        have hR4 : R.length ≤ 4 := by omega
        have hRm : (∀ f ∈ R, 0 ≤ f ∧ f < c.features) = True := eq_true fun f hf => by
          rw [hR] at hf
          rcases List.mem_append.1 hf with hf | hf
          · exact hO f (List.mem_of_mem_take hf)
          · exact hO f (List.mem_of_mem_drop hf)
        rw [hRe, hRl]
        have hyes : allW c m l (tg O i) R 3 = true → decP c (m + 1) l O = true := fun h => by
          rw [hfin, List.any_eq_true]
          exact ⟨i, List.mem_range.2 hi, by rw [← hR]; exact h⟩
        have hno : allW c m l (tg O i) R 3 = false → ∀ k, k < i + 1 → allW c m l (tg O k) (O.take k ++ O.drop (k + 1)) 3 = false := fun h k hk => by
          by_cases e : k = i
          · subst e; rw [← hR]; exact h
          · exact hP k (by omega)
        clear hR hRe hRl htl hdl' hP hfin
        generalize tg O (i : Int) = f at hOi hOr hyes hno
        have hTe : (∀ t ∈ l, okT c t) = True := eq_true hT
        refine ARun.forG (Tryz.envOK 58 Tryz.ordD fsD fsD_ok) 3 (fun _ => True) (fun k => [(11, .bool (allW c m l f R k)), (12, .int .i64 ((k : Int) + 1))]) (fun _ j2 => σ ++ (.cells [.int .i64 c.features, .list .no 3 (c.models.map Model.av)] :: (j ++ (.tail R.length 1 :: j2)))) [] (by kernel_rfl) (by kernel_rfl) (by simp) (by simp [upd, ins, subF, lookA, allW]) trivial ?_ ?_
        · intro K Q' hK k j2 hk _ ih2
          have hm1 : ((m : Int) + 1 - 1) = m := by omega
          have hm5 : (m : Int) ≤ 5 := by omega
          have hmn : (m : Int) < (n : Int) := by omega
          have hW : (∀ t ∈ withP c l f ((k : Int) + 1), okT c t) = True := eq_true (withP_ok hT)
          have hWl := withP_len (c := c) (l := l) (f := f) (v := (k : Int) + 1)
          rw [allW_succ] at ih2
          clear hyes hno ih
          generalize hV : withP c l f ((k : Int) + 1) = V at hW hWl ih2
          generalize allW c m l f R k = b at ih2 ⊢
          cases b
          · rw [Bool.false_and] at ih2
            simp -implicitDefEqProofs (maxSteps := 2000000) (disch := omega) only [go_sem, reduceCtorEq, Nat.reduceAdd, Nat.reduceSub, Nat.reduceMul, Nat.reduceLT, Nat.reduceLeDiff, Nat.reduceEqDiff, Nat.reduceBEq, Int.reduceToNat, Int.reduceLT, Int.reduceLE, Int.reduceEq, Int.reduceNeg, Int.reduceAdd, Int.reduceSub, Int.reduceMul, ↓reduceIte, Int.reduceBEq, Int.reduceBNe, hfd]
            exact (ih2 trivial j2).castS (by first | rfl | simp) (by simp [upd, ins, subF, lookA])
          · rw [Bool.true_and] at ih2
            generalize hz : decP c m V R = z at ih2
            cases z
            · simp -implicitDefEqProofs (maxSteps := 2000000) (disch := omega) only [go_sem, reduceCtorEq, Nat.reduceAdd, Nat.reduceSub, Nat.reduceMul, Nat.reduceLT, Nat.reduceLeDiff, Nat.reduceEqDiff, Nat.reduceBEq, Int.reduceToNat, Int.reduceLT, Int.reduceLE, Int.reduceEq, Int.reduceNeg, Int.reduceAdd, Int.reduceSub, Int.reduceMul, ↓reduceIte, Int.reduceBEq, Int.reduceBNe, hfd, decS, Cat_eta, hC, hTe, hl, hOi, hOr, hV, hW, hWl, hRm, hR4, hm1, hmn, Int.toNat_natCast, hz]
              exact (ih2 trivial j2).castS (by first | rfl | simp) (by simp [upd, ins, subF, lookA])
            · simp -implicitDefEqProofs (maxSteps := 2000000) (disch := omega) only [go_sem, reduceCtorEq, Nat.reduceAdd, Nat.reduceSub, Nat.reduceMul, Nat.reduceLT, Nat.reduceLeDiff, Nat.reduceEqDiff, Nat.reduceBEq, Int.reduceToNat, Int.reduceLT, Int.reduceLE, Int.reduceEq, Int.reduceNeg, Int.reduceAdd, Int.reduceSub, Int.reduceMul, ↓reduceIte, Int.reduceBEq, Int.reduceBNe, hfd, decS, Cat_eta, hC, hTe, hl, hOi, hOr, hV, hW, hWl, hRm, hR4, hm1, hmn, Int.toNat_natCast, hz]
              exact (ih2 trivial j2).castS (by first | rfl | simp) (by simp [upd, ins, subF, lookA])
        · intro j2 _
          cases hA : allW c m l f R 3
          · simp -implicitDefEqProofs (maxSteps := 2000000) (disch := omega) only [go_sem, reduceCtorEq, Nat.reduceAdd, Nat.reduceSub, Nat.reduceMul, Nat.reduceLT, Nat.reduceLeDiff, Nat.reduceEqDiff, Nat.reduceBEq, Int.reduceToNat, Int.reduceLT, Int.reduceLE, Int.reduceEq, Int.reduceNeg, Int.reduceAdd, Int.reduceSub, Int.reduceMul, ↓reduceIte, Int.reduceBEq, Int.reduceBNe]
            exact (ih (hno hA) (j ++ (.tail R.length 1 :: j2))).castS (by first | rfl | simp) (by simp [upd, ins, subF, lookA])
          · rw [hyes hA]
            simp -implicitDefEqProofs (maxSteps := 2000000) (disch := omega) only [go_sem, reduceCtorEq, Nat.reduceAdd, Nat.reduceSub, Nat.reduceMul, Nat.reduceLT, Nat.reduceLeDiff, Nat.reduceEqDiff, Nat.reduceBEq, Int.reduceToNat, Int.reduceLT, Int.reduceLE, Int.reduceEq, Int.reduceNeg, Int.reduceAdd, Int.reduceSub, Int.reduceMul, ↓reduceIte, Int.reduceBEq, Int.reduceBNe]
      · intro j hP
        have hz : decP c (m + 1) l O = false := by
          rw [hfin, List.any_eq_false]
          intro k hk
          rw [hP k (List.mem_range.1 hk)]; simp
        rw [hz]
        simp -implicitDefEqProofs (maxSteps := 2000000) (disch := omega) only [go_sem, reduceCtorEq, Nat.reduceAdd, Nat.reduceSub, Nat.reduceMul, Nat.reduceLT, Nat.reduceLeDiff, Nat.reduceEqDiff, Nat.reduceBEq, Int.reduceToNat, Int.reduceLT, Int.reduceLE, Int.reduceEq, Int.reduceNeg, Int.reduceAdd, Int.reduceSub, Int.reduceMul, ↓reduceIte, Int.reduceBEq, Int.reduceBNe]
theorem rDecided_c : ∀ n, n ≤ 5 → ∀ xs v, decS n xs = some v → PureV Tryz.prog 88 xs v
  | 0 => fun _ xs v h => by
    have key : ∀ xs v, decS 0 xs = some v → PureV Tryz.prog 88 xs v :=
      spw4_ok fun c l O m w h => by have h := someIf h; obtain ⟨⟨_, _, _, _, _, h1, h2⟩, _⟩ := h; omega
    exact key xs v h
  | n + 1 => fun hn xs v h => by
    have IH := rDecided_c n (by omega)
    obtain ⟨fsD, hfd⟩ : ∃ fsD : FuncId → List AV → Option AV, fsD = fun f xs => if f = 88 then decS n xs else fs127 f xs := ⟨_, rfl⟩
    have fsD_ok : ∀ f xs v, fsD f xs = some v → PureV Tryz.prog f xs v := fun f xs v h => by
      rw [hfd] at h
      simp only at h
      split at h
      · rename_i e; subst e; exact IH _ _ h
      · exact fs127_ok _ _ _ h
    have key : ∀ xs v, decS (n + 1) xs = some v → PureV Tryz.prog 88 xs v :=
      spw4_ok fun c l O m w h => by
        have h := someIf h
        obtain ⟨⟨h1, h2, h3, h4, h5, h6, h7⟩, rfl⟩ := h
        obtain ⟨k, rfl⟩ : ∃ k : Nat, m = k := ⟨m.toNat, by omega⟩
        rw [Int.toNat_natCast]
        exact rDecided_step n fsD fsD_ok (fun f xs => by rw [hfd]) c l O k (by omega) (by omega) h1 h2 h3 h4 h5
    exact key xs v h
def rDecided_s : List AV → Option AV := decS 5
theorem rDecided_ok : ∀ xs v, rDecided_s xs = some v → PureV Tryz.prog 88 xs v := rDecided_c 5 (Nat.le_refl _)
attribute [go_sem] decS
def fs128 (f : FuncId) (xs : List AV) : Option AV := if f = 88 then rDecided_s xs else fs127 f xs
theorem fs128_ok : ∀ f xs v, fs128 f xs = some v → PureV Tryz.prog f xs v := by
  intro f xs v h
  unfold fs128 at h
  split at h
  · rename_i e; subst e; exact rDecided_ok _ _ h
  exact fs127_ok _ _ _ h
attribute [go_sem] fs128 rDecided_s
end Go.Proofs
set_option linter.unusedSimpArgs false
set_option linter.unusedVariables false
set_option maxRecDepth 100000
namespace Go.Proofs
open Go Go.Mu

/-! The reference's Decides and Next. -/
theorem okTr_truths (c : Cat) (o : Old) : OkTr c (truthsM c o) := by
  refine ⟨fun m hm => (mem_truths.1 hm).1, ?_⟩
  rw [List.pairwise_map]; exact (truths_asc c o).imp fun h => by omega
theorem okOp_lost {c : Cat} {o : Old} (hO : OkO c o) {T : List Made} : OkOp c (lostL o.seen) (lostL o.seen) T :=
  ⟨fun f h => h, fun f h => by have := lostL_mem h; have := hO.seen.1; omega, fun f h hn => absurd h hn⟩
set_option maxHeartbeats 4000000 in
theorem rDecides_p (c : Cat) (o : Old) (hc : okCat c) (ho : okOld o) : PureV Tryz.prog 41 [c.av, o.av] (.tup [.int .i64 (decM c o).1, .int .i64 (decM c o).2]) := by
  refine PureV.of_ev (E := Tryz.E 33 (fun _ => ([], [])) fs128) (Tryz.envOK 33 (fun _ => ([], [])) fs128 fs128_ok) (ii_plain) Tryz.kp41 Tryz.func41 rfl (by kernel_rfl) (by simp [Tryz.E]) (Callable.of Tryz.func41 (by kernel_rfl) (by kernel_rfl)) (by kernel_rfl) ?_
  intro σ
  simp only [Cat.av, Old.av]
  by_cases hk : (knownM c o []).2 = 0
  · obtain ⟨hv, hne, hke⟩ := knownM_ok hk
    obtain ⟨hC, hO⟩ := okO_of_ck hv
    have hlen := truthsM_len (o := o) hC
    have hsn : o.seen.length ≤ 4 := seen_len hC hO
    have hll : (lostL o.seen).length ≤ 4 := by unfold lostL; rw [List.length_map]; exact Nat.le_trans (List.length_filter_le _ _) (by simpa using hsn)
    have hr : decM c o = if 5 ≤ needL (lostL o.seen) (truthsM c o) then (0, 11) else ((needL (lostL o.seen) (truthsM c o) : Int), 0) := by unfold decM; rw [if_pos hk]
    have hf : fitsM c o = ((truthsM c o).map Made.pair, 0) := by unfold fitsM; rw [if_pos hk]
    have hT : (∀ t ∈ (truthsM c o).map Made.pair, okT c t) = True := eq_true fun t ht => by
      obtain ⟨m, hm, rfl⟩ := List.mem_map.1 ht; exact pair_okT hC (mem_truths.1 hm).1
    have hpl : ((truthsM c o).map Made.pair).length ≤ 16 := by rw [List.length_map]; exact hlen
    have hOm : (∀ f ∈ lostL o.seen, 0 ≤ f ∧ f < c.features) = True := eq_true (okOp_lost hO (T := truthsM c o)).rng
    have hdec := fun (n : Nat) (hn : n < 5) => decP_need hC n _ _ hn (okTr_truths c o) hne (okOp_lost hO)
    have hopen := need_open hC (lostL o.seen).length _ _ (Nat.le_refl _) (okTr_truths c o) hne (okOp_lost hO)
    have h5 := needL_le (F := lostL o.seen) (T := truthsM c o)
    rw [hr]
    clear hr hke hk
    generalize hB : (truthsM c o).map Made.pair = B at hf hT hpl hdec
    generalize needL (lostL o.seen) (truthsM c o) = nd at hdec hopen h5 ⊢
    generalize hF : lostL o.seen = F at hll hOm hdec hopen ⊢
    simp -implicitDefEqProofs (maxSteps := 2000000) (disch := omega) only [go_sem, reduceCtorEq, Nat.reduceAdd, Nat.reduceSub, Nat.reduceMul, Nat.reduceLT, Nat.reduceLeDiff, Nat.reduceEqDiff, Nat.reduceBEq, Int.reduceToNat, Int.reduceLT, Int.reduceLE, Int.reduceEq, Int.reduceNeg, Int.reduceAdd, Int.reduceSub, Int.reduceMul, ↓reduceIte, Int.reduceBEq, Int.reduceBNe, Cat_eta, Old_eta, hc, ho, hf, hsn, hF, isv]
    refine ARun.forS (Tryz.envOK 33 (fun _ => ([], [])) fs128 fs128_ok) (F.length + 1) (fun i => ∀ k, k < i → ¬ nd ≤ k) (fun i => [(9, .int .i64 i)]) (fun _ j => σ ++ (.cells [.int .i64 c.features, .list .no 3 (c.models.map Model.av)] :: .cells [.list .no 1 (o.seen.map (.int .i64)), .str o.plate, .int .i64 o.changed] :: j)) [] (by kernel_rfl) (by simp) (by simp [upd, ins, subF, lookA]) (fun k hk => by omega) ?_ ?_
    · intro i j hi hP ih
      have hd := hdec i (by omega)
      have hi5 : (i : Int) < 5 := by omega
      by_cases hn : nd ≤ i
      · have he : nd = i := by
          by_cases h0 : i = 0
          · omega
          · have := hP (i - 1) (by omega); omega
        rw [decide_eq_true hn] at hd
        rw [if_neg (by omega), he]
        clear ih hP hdec hopen
        simp -implicitDefEqProofs (maxSteps := 2000000) (disch := omega) only [go_sem, reduceCtorEq, Nat.reduceAdd, Nat.reduceSub, Nat.reduceMul, Nat.reduceLT, Nat.reduceLeDiff, Nat.reduceEqDiff, Nat.reduceBEq, Int.reduceToNat, Int.reduceLT, Int.reduceLE, Int.reduceEq, Int.reduceNeg, Int.reduceAdd, Int.reduceSub, Int.reduceMul, ↓reduceIte, Int.reduceBEq, Int.reduceBNe, Cat_eta, hC, hT, hpl, hOm, hll, hi5, Int.toNat_natCast, hd]
      · rw [decide_eq_false hn] at hd
        have ih := ih (fun k hk => by
          by_cases e : k = i
          · subst e; exact hn
          · exact hP k (by omega))
        clear hP hdec hopen
        simp -implicitDefEqProofs (maxSteps := 2000000) (disch := omega) only [go_sem, reduceCtorEq, Nat.reduceAdd, Nat.reduceSub, Nat.reduceMul, Nat.reduceLT, Nat.reduceLeDiff, Nat.reduceEqDiff, Nat.reduceBEq, Int.reduceToNat, Int.reduceLT, Int.reduceLE, Int.reduceEq, Int.reduceNeg, Int.reduceAdd, Int.reduceSub, Int.reduceMul, ↓reduceIte, Int.reduceBEq, Int.reduceBNe, Cat_eta, hC, hT, hpl, hOm, hll, hi5, Int.toNat_natCast, hd]
        exact (ih j).castS (by first | rfl | simp) (by simp [upd, ins, subF, lookA])
    · intro j hP
      have h9 : 5 ≤ nd := by
        have h1 := hP F.length (by omega)
        apply Classical.byContradiction
        intro h2
        exact h1 (hopen (by omega))
      rw [if_pos h9]
      clear hP hdec hopen
      simp -implicitDefEqProofs (maxSteps := 2000000) (disch := omega) only [go_sem, reduceCtorEq, Nat.reduceAdd, Nat.reduceSub, Nat.reduceMul, Nat.reduceLT, Nat.reduceLeDiff, Nat.reduceEqDiff, Nat.reduceBEq, Int.reduceToNat, Int.reduceLT, Int.reduceLE, Int.reduceEq, Int.reduceNeg, Int.reduceAdd, Int.reduceSub, Int.reduceMul, ↓reduceIte, Int.reduceBEq, Int.reduceBNe]
  · have hr : decM c o = (0, (knownM c o []).2) := by unfold decM; rw [if_neg hk]
    have hf := @fits_known c o
    rw [hr]
    simp -implicitDefEqProofs (maxSteps := 2000000) (disch := omega) only [go_sem, reduceCtorEq, Nat.reduceAdd, Nat.reduceSub, Nat.reduceMul, Nat.reduceLT, Nat.reduceLeDiff, Nat.reduceEqDiff, Nat.reduceBEq, Int.reduceToNat, Int.reduceLT, Int.reduceLE, Int.reduceEq, Int.reduceNeg, Int.reduceAdd, Int.reduceSub, Int.reduceMul, ↓reduceIte, Int.reduceBEq, Int.reduceBNe, Cat_eta, Old_eta, hc, ho, hf, hk, isv]
def rDecides_s := spw2 tyCat.w tyOld.w fun c o => if okCat c ∧ okOld o then some (.tup [.int .i64 (decM c o).1, .int .i64 (decM c o).2]) else none
theorem rDecides_ok : ∀ xs v, rDecides_s xs = some v → PureV Tryz.prog 41 xs v :=
  spw2_ok fun c o v h => by have h := someIf h; rw [← h.2]; exact rDecides_p c o h.1.1 h.1.2
-- Next
theorem popN_sel {L : List Made} {x : Nat} (h : x < 2 ^ L.length) : popN x = (selL L x).length := by
  rw [popN_testBit h]
  unfold cntN selL
  rw [List.length_map]
  have e : L.zipIdx.map (·.2) = List.range L.length := by rw [List.zipIdx_map_snd, List.range_eq_range']
  rw [← e, List.filter_map, List.length_map]; rfl
theorem nextN_part {L : List Made} {f : Int} : nextN L f = worstF List.length L f := by
  have h := worst_map (L := L) (now := 2 ^ L.length - 1) (f := f) (g := List.length)
  rw [selL_whole] at h
  rw [← h]
  unfold nextN maxPop
  congr 1
  refine List.map_congr_left fun p hp => ?_
  exact popN_sel ((looksG (L := L) (now := 2 ^ L.length - 1) (f := f)).bit p hp).1
theorem wP_part {c : Cat} {T : List Made} {f : Int} (hC : OkC c) (hT : ∀ m ∈ T, m ∈ allMade c) (h0 : 0 ≤ f) (h1 : f < c.features) : wP c (T.map Made.pair) f 3 = nextN T f := by
  rw [nextN_part]
  have e : wP c (T.map Made.pair) f 3 = max (max (max 0 (partL T f 1).length) (partL T f 2).length) (partL T f 3).length := by
    have h1 := fun v => congrArg List.length (withP_pair (v := v) hC hT h0 h1)
    simp only [List.length_map] at h1
    show max (max (max 0 (withP c (T.map Made.pair) f (((0 : Nat) : Int) + 1)).length) (withP c (T.map Made.pair) f (((1 : Nat) : Int) + 1)).length) (withP c (T.map Made.pair) f (((2 : Nat) : Int) + 1)).length = _
    rw [h1, h1, h1]; rfl
  rw [e]
  have one : ∀ v, (partL T f v).length ≤ worstF List.length T f := fun v => by
    by_cases hv : v ∈ valF f T
    · exact worst_le.1 (Nat.le_refl _) v hv
    · rw [part_nil hv]; exact Nat.zero_le _
  apply Nat.le_antisymm
  · have := one 1
    have := one 2
    have := one 3
    omega
  · refine worst_le.2 fun v hv => ?_
    rcases look_rng hC hT h0 h1 hv with rfl | rfl | rfl <;> omega
theorem leastL_app {α : Type} [Inhabited α] {num : α → Int} {l : List α} {x : α} (h : l ≠ []) : leastL num (l ++ [x]) = leastS num (leastL num l) x := by
  obtain ⟨y, l, rfl⟩ : ∃ y l', l = y :: l' := by cases l with | nil => exact absurd rfl h | cons a b => exact ⟨a, b, rfl⟩
  show (l ++ [x]).foldl (leastS num) (y, num y) = _
  rw [List.foldl_append]; rfl
theorem leastL_congr {α : Type} [Inhabited α] {num num' : α → Int} {l : List α} (hl : l ≠ []) (h : ∀ x ∈ l, num x = num' x) : leastL num l = leastL num' l := by
  obtain ⟨y, l, rfl⟩ : ∃ y l', l = y :: l' := by cases l with | nil => exact absurd rfl hl | cons a b => exact ⟨a, b, rfl⟩
  have hy := h y (by simp)
  have key : ∀ (l : List α) (b : α × Int), (∀ x ∈ l, num x = num' x) → l.foldl (leastS num) b = l.foldl (leastS num') b := fun l => by
    induction l with
    | nil => intro b _; rfl
    | cons z l ih =>
      intro b hz
      rw [List.foldl_cons, List.foldl_cons]
      have : leastS num b z = leastS num' b z := by unfold leastS; rw [hz z (by simp)]
      rw [this]; exact ih _ fun x hx => hz x (List.mem_cons_of_mem _ hx)
  show l.foldl (leastS num) (y, num y) = l.foldl (leastS num') (y, num' y)
  rw [hy]; exact key l _ fun x hx => h x (List.mem_cons_of_mem _ hx)
def bestI (num : Int → Int) (l : List Int) : Int := if l = [] then -1 else (leastL num l).1
def Tryz.ordX : Nat → List Nat × List (Nat × List Nat)
  | 8 => ([0, 1, 0, 7, 15, 31, 63, 127, 255, 511, 1023, 1023, 1023, 8191, 1023, 1023, 1023, 131071, 262143, 524287, 1048575], [(0, []), (1, []), (2, []), (3, []), (4, []), (5, []), (6, []), (7, []), (8, []), (9, []), (10, []), (11, []), (12, []), (13, [13]), (14, []), (15, []), (16, []), (17, [17]), (18, []), (19, []), (20, [])])
  | _ => ([], [])
theorem Tryz.ordX_8 : Tryz.ordX 8 = ([0, 1, 0, 7, 15, 31, 63, 127, 255, 511, 1023, 1023, 1023, 8191, 1023, 1023, 1023, 131071, 262143, 524287, 1048575], [(0, []), (1, []), (2, []), (3, []), (4, []), (5, []), (6, []), (7, []), (8, []), (9, []), (10, []), (11, []), (12, []), (13, [13]), (14, []), (15, []), (16, []), (17, [17]), (18, []), (19, []), (20, [])]) := rfl
attribute [go_sem] Tryz.ordX_8
set_option maxHeartbeats 40000000 in
theorem rNext_p (c : Cat) (o : Old) (hc : okCat c) (ho : okOld o) : PureV Tryz.prog 39 [c.av, o.av] (.tup [.int .i64 (nextM c o).1, .int .i64 (nextM c o).2.1, .int .i64 (nextM c o).2.2]) := by
  refine PureV.of_ev (E := Tryz.E 55 Tryz.ordX fs128) (Tryz.envOK 55 Tryz.ordX fs128 fs128_ok) (iii_plain) Tryz.kp39 Tryz.func39 rfl (by kernel_rfl) (by simp [Tryz.E]) (Callable.of Tryz.func39 (by kernel_rfl) (by kernel_rfl)) (by kernel_rfl) ?_
  intro σ
  simp only [Cat.av, Old.av]
  by_cases hk : (knownM c o []).2 = 0
  · obtain ⟨hv, hne, hke⟩ := knownM_ok hk
    obtain ⟨hC, hO⟩ := okO_of_ck hv
    have hlen := truthsM_len (o := o) hC
    have hf : fitsM c o = ((truthsM c o).map Made.pair, 0) := by unfold fitsM; rw [if_pos hk]
    have hT : (∀ t ∈ (truthsM c o).map Made.pair, okT c t) = True := eq_true fun t ht => by
      obtain ⟨m, hm, rfl⟩ := List.mem_map.1 ht; exact pair_okT hC (mem_truths.1 hm).1
    have hpl : ((truthsM c o).map Made.pair).length ≤ 16 := by rw [List.length_map]; exact hlen
    have hfe := hC.features
    have hso := hO.seen.1
    have hr : nextM c o = if lostL o.seen = [] then (0, 0, 11) else ((leastL (fun f => (nextN (truthsM c o) f : Int)) (lostL o.seen)).1, (leastL (fun f => (nextN (truthsM c o) f : Int)) (lostL o.seen)).2, 0) := by unfold nextM; rw [if_pos hk]
    have hw : ∀ f : Int, 0 ≤ f → f < c.features → (nextN (truthsM c o) f : Int) = (wP c ((truthsM c o).map Made.pair) f 3 : Nat) := fun f h0 h1 => by
      rw [wP_part hC (fun m hm => (mem_truths.1 hm).1) h0 h1]
    rw [hr]
    clear hr hke hk hne
    generalize (truthsM c o).map Made.pair = B at hf hT hpl hw
    generalize truthsM c o = L at hw ⊢
    have hlm : ∀ n, n ≤ o.seen.length → ∀ f ∈ lostT o.seen n, 0 ≤ f ∧ f < c.features := fun n hn f hf => by
      unfold lostT at hf
      obtain ⟨k, hk, rfl⟩ := List.mem_map.1 hf
      have := List.mem_range.1 (List.mem_filter.1 hk).1
      omega
    simp -implicitDefEqProofs (maxSteps := 2000000) (disch := omega) only [go_sem, reduceCtorEq, Nat.reduceAdd, Nat.reduceSub, Nat.reduceMul, Nat.reduceLT, Nat.reduceLeDiff, Nat.reduceEqDiff, Nat.reduceBEq, Int.reduceToNat, Int.reduceLT, Int.reduceLE, Int.reduceEq, Int.reduceNeg, Int.reduceAdd, Int.reduceSub, Int.reduceMul, ↓reduceIte, Int.reduceBEq, Int.reduceBNe, Cat_eta, Old_eta, hc, ho, hf]
    rw [lostT_all]
    generalize o.seen = S at hso hlm ⊢
    have hisv : isv S = .list .no 1 (S.map (.int .i64)) := rfl
    rw [hisv]
    obtain ⟨num, hnum⟩ : ∃ num : Int → Int, num = fun f => ((wP c B f 3 : Nat) : Int) := ⟨_, rfl⟩
    have hnw : ∀ f, ((wP c B f 3 : Nat) : Int) = num f := fun f => by rw [hnum]
    have hnb : ∀ f, 0 ≤ num f ∧ num f ≤ 16 := fun f => by rw [hnum]; have := wP_le (c := c) (l := B) (f := f) (k := 3); simp only; omega
    clear hnum
    refine ARun.forG (Tryz.envOK 55 Tryz.ordX fs128 fs128_ok) S.length (fun _ => True) (fun i => [(9, .int .i64 (bestI num (lostT S i))), (10, .int .i64 i)]) (fun _ j => σ ++ (.cells [.int .i64 c.features, .list .no 3 (c.models.map Model.av)] :: .cells [.list .no 1 (S.map (.int .i64)), .str o.plate, .int .i64 o.changed] :: j)) [] (by kernel_rfl) (by kernel_rfl) (by simp) (by simp [upd, ins, subF, lookA, lostT, bestI]) trivial ?_ ?_
    · intro K Q' hK i j hi _ ih
      have hsi : idx (S.map (AV.int .i64)) (i : Int) = some (.int .i64 (tg S i)) := by rw [idx_nat hi, tgE hi]
      have hmi := hlm i (by omega)
      rw [lostT_succ] at ih
      generalize lostT S i = D at ih hmi ⊢
      generalize tg S (i : Int) = x at hsi ih
      by_cases hx : x = 0
      · rw [if_pos hx] at ih
        by_cases hD : D = []
        · subst hD
          have e1 : bestI num [] = -1 := rfl
          have e2 : bestI num ([] ++ [(i : Int)]) = i := rfl
          rw [e2] at ih
          rw [e1]
          simp -implicitDefEqProofs (maxSteps := 2000000) (disch := omega) only [go_sem, reduceCtorEq, Nat.reduceAdd, Nat.reduceSub, Nat.reduceMul, Nat.reduceLT, Nat.reduceLeDiff, Nat.reduceEqDiff, Nat.reduceBEq, Int.reduceToNat, Int.reduceLT, Int.reduceLE, Int.reduceEq, Int.reduceNeg, Int.reduceAdd, Int.reduceSub, Int.reduceMul, ↓reduceIte, Int.reduceBEq, Int.reduceBNe, hsi]
          exact (ih trivial j).castS (by first | rfl | simp) (by simp [upd, ins, subF, lookA])
        · obtain ⟨h1, h2, h3⟩ := leastL_spec (num := num) hD
          have e1 : bestI num D = (leastL num D).1 := by unfold bestI; rw [if_neg hD]
          have e2 : bestI num (D ++ [(i : Int)]) = (leastS num (leastL num D) i).1 := by unfold bestI; rw [if_neg (by simp), leastL_app hD]
          have hb := hmi _ h1
          rw [e2] at ih
          rw [e1]
          unfold leastS at ih
          rw [h2] at ih
          generalize hb1 : (leastL num D).1 = b at ih hb ⊢
          have q1 := hnb i
          have q2 := hnb b
          clear h1 h2 h3 e1 e2 hmi hlm hw
          by_cases hlt : num i < num b
          · rw [if_pos hlt] at ih
            simp -implicitDefEqProofs (maxSteps := 2000000) (disch := omega) only [go_sem, reduceCtorEq, Nat.reduceAdd, Nat.reduceSub, Nat.reduceMul, Nat.reduceLT, Nat.reduceLeDiff, Nat.reduceEqDiff, Nat.reduceBEq, Int.reduceToNat, Int.reduceLT, Int.reduceLE, Int.reduceEq, Int.reduceNeg, Int.reduceAdd, Int.reduceSub, Int.reduceMul, ↓reduceIte, Int.reduceBEq, Int.reduceBNe, hsi, Cat_eta, hC, hT, hpl, hnw]
            exact (ih trivial j).castS (by first | rfl | simp) (by simp [upd, ins, subF, lookA])
          · rw [if_neg hlt, hb1] at ih
            simp -implicitDefEqProofs (maxSteps := 2000000) (disch := omega) only [go_sem, reduceCtorEq, Nat.reduceAdd, Nat.reduceSub, Nat.reduceMul, Nat.reduceLT, Nat.reduceLeDiff, Nat.reduceEqDiff, Nat.reduceBEq, Int.reduceToNat, Int.reduceLT, Int.reduceLE, Int.reduceEq, Int.reduceNeg, Int.reduceAdd, Int.reduceSub, Int.reduceMul, ↓reduceIte, Int.reduceBEq, Int.reduceBNe, hsi, Cat_eta, hC, hT, hpl, hnw]
            exact (ih trivial j).castS (by first | rfl | simp) (by simp [upd, ins, subF, lookA])
      · rw [if_neg hx, List.append_nil] at ih
        simp -implicitDefEqProofs (maxSteps := 2000000) (disch := omega) only [go_sem, reduceCtorEq, Nat.reduceAdd, Nat.reduceSub, Nat.reduceMul, Nat.reduceLT, Nat.reduceLeDiff, Nat.reduceEqDiff, Nat.reduceBEq, Int.reduceToNat, Int.reduceLT, Int.reduceLE, Int.reduceEq, Int.reduceNeg, Int.reduceAdd, Int.reduceSub, Int.reduceMul, ↓reduceIte, Int.reduceBEq, Int.reduceBNe, hsi]
        exact (ih trivial j).castS (by first | rfl | simp) (by simp [upd, ins, subF, lookA])
    · intro j _
      have hmS := hlm S.length (Nat.le_refl _)
      generalize lostT S S.length = D at hmS ⊢
      by_cases hD : D = []
      · rw [if_pos hD, hD]
        have e1 : bestI num [] = -1 := rfl
        rw [e1]
        simp -implicitDefEqProofs (maxSteps := 2000000) (disch := omega) only [go_sem, reduceCtorEq, Nat.reduceAdd, Nat.reduceSub, Nat.reduceMul, Nat.reduceLT, Nat.reduceLeDiff, Nat.reduceEqDiff, Nat.reduceBEq, Int.reduceToNat, Int.reduceLT, Int.reduceLE, Int.reduceEq, Int.reduceNeg, Int.reduceAdd, Int.reduceSub, Int.reduceMul, ↓reduceIte, Int.reduceBEq, Int.reduceBNe]
      · rw [if_neg hD]
        have e3 : leastL (fun f => (nextN L f : Int)) D = leastL num D := leastL_congr hD fun f hf => by rw [← hnw]; exact hw f (hmS f hf).1 (hmS f hf).2
        obtain ⟨h1, h2, h3⟩ := leastL_spec (num := num) hD
        have e1 : bestI num D = (leastL num D).1 := by unfold bestI; rw [if_neg hD]
        have hb := hmS _ h1
        rw [e3, e1, h2]
        generalize (leastL num D).1 = b at hb
        have q2 := hnb b
        clear h1 h2 h3 e1 e3 hmS hlm hw
        simp -implicitDefEqProofs (maxSteps := 2000000) (disch := omega) only [go_sem, reduceCtorEq, Nat.reduceAdd, Nat.reduceSub, Nat.reduceMul, Nat.reduceLT, Nat.reduceLeDiff, Nat.reduceEqDiff, Nat.reduceBEq, Int.reduceToNat, Int.reduceLT, Int.reduceLE, Int.reduceEq, Int.reduceNeg, Int.reduceAdd, Int.reduceSub, Int.reduceMul, ↓reduceIte, Int.reduceBEq, Int.reduceBNe, Cat_eta, hC, hT, hpl, hnw]
  · have hr : nextM c o = (0, 0, (knownM c o []).2) := by unfold nextM; rw [if_neg hk]
    have hf := @fits_known c o
    rw [hr]
    simp -implicitDefEqProofs (maxSteps := 2000000) (disch := omega) only [go_sem, reduceCtorEq, Nat.reduceAdd, Nat.reduceSub, Nat.reduceMul, Nat.reduceLT, Nat.reduceLeDiff, Nat.reduceEqDiff, Nat.reduceBEq, Int.reduceToNat, Int.reduceLT, Int.reduceLE, Int.reduceEq, Int.reduceNeg, Int.reduceAdd, Int.reduceSub, Int.reduceMul, ↓reduceIte, Int.reduceBEq, Int.reduceBNe, Cat_eta, Old_eta, hc, ho, hf, hk, isv]
def rNext_s := spw2 tyCat.w tyOld.w fun c o => if okCat c ∧ okOld o then some (.tup [.int .i64 (nextM c o).1, .int .i64 (nextM c o).2.1, .int .i64 (nextM c o).2.2]) else none
theorem rNext_ok : ∀ xs v, rNext_s xs = some v → PureV Tryz.prog 39 xs v :=
  spw2_ok fun c o v h => by have h := someIf h; rw [← h.2]; exact rNext_p c o h.1.1 h.1.2
end Go.Proofs
