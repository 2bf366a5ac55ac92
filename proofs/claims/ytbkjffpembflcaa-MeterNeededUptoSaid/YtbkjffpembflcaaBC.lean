/- Texts of a proof: lemmas. -/
import Derived.Test.YtbkjffpembflcaaBA
import Derived.Test.YtbkjffpembflcaaAJ
import Derived.Test.YtbkjffpembflcaaA38
import Derived.Test.YtbkjffpembflcaaA19
import Derived.Test.YtbkjffpembflcaaAK
set_option linter.unusedSimpArgs false
set_option linter.unusedVariables false
set_option maxRecDepth 100000
namespace Go.Proofs
open Go Go.Mu

/-- A list of numbers, as an element. -/
def isv (t : List Int) : AV := .list .no 1 (t.map (AV.int .i64))
/-- A list of lists of numbers. -/
def tss (L : List (List Int)) : AV := .list .no 1 (L.map isv)
def decN : AV → Option (List Int)
  | .list .no 1 xs => decs decI xs
  | _ => none
theorem decN_inv (a : AV) (x : List Int) (h : decN a = some x) : a = isv x := by
  unfold decN at h; split at h
  · rw [decs_inv decI_inv h]; rfl
  · cases h
theorem decN_isv (x : List Int) : decN (isv x) = some x := decs_ints
def tIss : Ty (List (List Int)) := ⟨decL 1 decN, tss, decL_inv' decN_inv⟩
theorem tIss_dec {a : AV} : tIss.dec a = decL 1 decN a := rfl
theorem decL_iss {t : Tok} {l : List (List Int)} : decL 1 decN (.list t 1 (l.map isv)) = some l := decL_self decN_isv
theorem plain_ints (t : List Int) : Plain (.list .no 1 (t.map (AV.int .i64))) := by
  intro n
  refine .list _ _ _ (fun id e => by cases e) fun i j hi hj => ?_
  simp [AV.cells] at hj ⊢
  exact .int _ _
theorem isv_plain (t : List Int) : Plain (isv t) := plain_ints t
theorem tss_plain (l : List (List Int)) : Plain (tss l) := by
  intro n
  refine .list _ _ _ (fun id e => by cases e) fun i j hi hj => ?_
  simp only [List.getElem_map, isv, AV.cells, List.length_singleton] at hj ⊢
  have : j = 0 := by omega
  subst this
  exact plain_ints _ n
attribute [go_sem] tIss_dec decL_iss
theorem padT_len' {t : List Int} (h : t.length ≤ 3) : (padT t).length = 3 := by simp [padT]; omega
theorem padT_take' {t : List Int} : (padT t).take t.length = t := by simp [padT]
theorem padT_set' {t : List Int} (h : t.length < 3) (v : Int) : setI (padT t) t.length v = padT (t ++ [v]) := by
  simp only [setI, padT, Int.toNat_natCast, List.length_append, List.length_singleton]
  rw [List.set_append_right _ _ (by omega), Nat.sub_self]
  have e : 3 - t.length = (3 - (t.length + 1)) + 1 := by omega
  rw [e, List.replicate_succ]
  simp
def rallL (e : Ear) (t : List Int) : List (List Int) := (allT e (e.tones.length - t.length) (padT t) t.length).map (List.take e.tones.length)
def rfits_s := spec2 tEar tIs fun e T => if ck e = 0 ∧ T.length = e.tones.length ∧ small T then some (.bool (e.rds.all fun r => isR r e.slack T)) else none
theorem rfits_ok : ∀ xs v, rfits_s xs = some v → PureV Try.prog 127 xs v :=
  spec2_ok fun e T v h => by have h := someIf h; rw [← h.2]; exact rfits_p e T h.1.1 h.1.2.1 h.1.2.2
def fs107 (f : FuncId) (xs : List AV) : Option AV := if f = 127 then rfits_s xs else fs106 f xs
theorem fs107_ok : ∀ f xs v, fs107 f xs = some v → PureV Try.prog f xs v := by
  intro f xs v h
  unfold fs107 at h
  split at h
  · rename_i e; subst e; exact rfits_ok _ _ h
  exact fs106_ok _ _ _ h
attribute [go_sem] fs107 rfits_s
theorem isv_flat (t : List Int) : (isv t).flat = true := rfl
theorem isv_cells (t : List Int) : (isv t).cells = [isv t] := rfl
theorem getD_tone {e : Ear} {a : Nat} (h : a < e.tones.length) : e.tones.getD a default = e.tones[a] := by simp [List.getD, List.getElem?_eq_getElem h]
theorem idxR {l : List Rng} {a : Nat} (h : a < l.length) : idx (l.map Rng.av) (a : Int) = some l[a].av := by rw [idx_nat h]
set_option maxHeartbeats 4000000 in
theorem rall_p (e : Ear) (hc : ck e = 0) : ∀ (d : Nat) (t : List Int), t.length + d = e.tones.length → small t → PureV Try.prog 82 [e.av, .list .no 1 (t.map (.int .i64))] (tss (rallL e t)) := by
  have he := okE_of_ck hc
  have hlen := he.len
  intro d
  induction d with
  | zero =>
    intro t hl hs
    refine PureV.of_ev (E := Try.E 44 Try.ord82 fs107) (Try.envOK 44 Try.ord82 fs107 fs107_ok) (tss_plain _) Try.kp82 Try.func82 rfl (by kernel_rfl) (by simp [Try.E]) (Callable.of Try.func82 (by kernel_rfl) (by kernel_rfl)) (by kernel_rfl) ?_
    intro σ
    have hL : rallL e t = if (e.rds.all fun r => isR r e.slack t) then [t] else [] := by
      unfold rallL
      have e0 : e.tones.length - t.length = 0 := by omega
      rw [e0]
      simp only [allT, isR_pad]
      split
      · simp only [List.map_cons, List.map_nil]; rw [show e.tones.length = t.length by omega, padT_take']
      · rfl
    rw [hL]
    simp only [Ear.av]
    have hl' : t.length = e.tones.length := by omega
    have hc' : ck ⟨e.slack, e.tones, e.rds⟩ = 0 := hc
    cases hb : (e.rds.all fun r => isR r e.slack t)
    · simp -implicitDefEqProofs (maxSteps := 2000000) (disch := omega) only [go_sem, reduceCtorEq, Nat.reduceAdd, Nat.reduceSub, Nat.reduceMul, Nat.reduceLT, Nat.reduceLeDiff, Nat.reduceEqDiff, Nat.reduceBEq, Int.reduceToNat, Int.reduceLT, Int.reduceLE, Int.reduceEq, Int.reduceNeg, Int.reduceAdd, Int.reduceSub, Int.reduceMul, ↓reduceIte, Int.reduceBEq, Int.reduceBNe, hc', hs, hb, hl', tss, List.map_nil]
    · simp -implicitDefEqProofs (maxSteps := 2000000) (disch := omega) only [go_sem, reduceCtorEq, Nat.reduceAdd, Nat.reduceSub, Nat.reduceMul, Nat.reduceLT, Nat.reduceLeDiff, Nat.reduceEqDiff, Nat.reduceBEq, Int.reduceToNat, Int.reduceLT, Int.reduceLE, Int.reduceEq, Int.reduceNeg, Int.reduceAdd, Int.reduceSub, Int.reduceMul, ↓reduceIte, Int.reduceBEq, Int.reduceBNe, hc', hs, hb, hl', tss, isv]
  | succ d ih =>
    intro t hl hs
    refine PureV.of_ev (E := Try.E 44 Try.ord82 fs107) (Try.envOK 44 Try.ord82 fs107 fs107_ok) (tss_plain _) Try.kp82 Try.func82 rfl (by kernel_rfl) (by simp [Try.E]) (Callable.of Try.func82 (by kernel_rfl) (by kernel_rfl)) (by kernel_rfl) ?_
    intro σ
    have hlt : t.length < e.tones.length := by omega
    have hx := he.tone _ (List.getElem_mem hlt)
    have hxi := idxR hlt
    have hT : ∀ v, 0 ≤ v ∧ v ≤ 1000000 → small (t ++ [v]) := fun v hv x hx => by
      rcases List.mem_append.1 hx with h | h
      · exact hs x h
      · simp at h; subst h; exact hv
    have hL : rallL e t = (List.range (e.tones[t.length].hi - e.tones[t.length].lo + 1).toNat).flatMap fun (k : Nat) => rallL e (t ++ [e.tones[t.length].lo + k]) := by
      unfold rallL
      rw [show e.tones.length - t.length = d + 1 by omega]
      simp only [allT, getD_tone hlt, List.map_flatMap]
      congr 1; funext k
      rw [padT_set' (by omega), List.length_append, List.length_singleton, show e.tones.length - (t.length + 1) = d by omega]
    rw [hL]
    have hle : ∀ v, (rallL e (t ++ [v])).length ≤ 441 := fun v => by
      unfold rallL
      rw [List.length_map]
      refine Nat.le_trans (allT_len e he _ _ _ (by simp; omega)) (Nat.le_trans (Nat.pow_le_pow_right (by omega) (show _ ≤ 2 by simp; omega)) (by decide))
    generalize e.tones[t.length] = x at hx hxi
    obtain ⟨lo, hi⟩ := x
    simp only at hx
    simp only [Ear.av]
    simp -implicitDefEqProofs (maxSteps := 2000000) (disch := omega) only [go_sem, reduceCtorEq, Nat.reduceAdd, Nat.reduceSub, Nat.reduceMul, Nat.reduceLT, Nat.reduceLeDiff, Nat.reduceEqDiff, Nat.reduceBEq, Int.reduceToNat, Int.reduceLT, Int.reduceLE, Int.reduceEq, Int.reduceNeg, Int.reduceAdd, Int.reduceSub, Int.reduceMul, ↓reduceIte, Int.reduceBEq, Int.reduceBNe, hxi, Rng.av]
    refine ARun.ghost 5 1 (sz0 := 0) rfl (by simp [lookA]) ?_
    simp only [ins, ↓reduceIte, List.append_assoc, List.cons_append, List.nil_append, List.length_append, List.length_cons, List.length_nil, Nat.zero_add, Nat.reduceEqDiff, Nat.reduceAdd]
    refine ARun.forS (Try.envOK 44 Try.ord82 fs107 fs107_ok) (hi - lo + 1).toNat (fun _ => True) (fun i => [(5, .list (.own (σ.length + 2)) 1 (((List.range i).flatMap fun (k : Nat) => rallL e (t ++ [lo + k])).map isv)), (7, .int .i64 (lo + i))]) (fun i j => σ ++ (.cells e.cells :: .cells [.int .i64 lo, .int .i64 hi] :: .tail ((List.range i).flatMap fun (k : Nat) => rallL e (t ++ [lo + k])).length 1 :: j)) [] (by kernel_rfl) (by simp [Ear.cells]) (by simp [upd, ins, subF, lookA]) trivial ?_ ?_
    · intro i j hi' _ ih2
      have hbl : ((List.range i).flatMap fun (k : Nat) => rallL e (t ++ [lo + k])).length ≤ i * 441 := flatMap_len _ fun k _ => hle _
      rw [flatMap_succ] at ih2
      have hle1 := hle (lo + i)
      have ih' := ih (t ++ [lo + i]) (by simp; omega) (hT _ (by omega))
      generalize ((List.range i).flatMap fun (k : Nat) => rallL e (t ++ [lo + k])) = B at hbl ih2 ⊢
      generalize rallL e (t ++ [lo + i]) = C at hle1 ih2 ih'
      simp -implicitDefEqProofs (maxSteps := 2000000) (disch := omega) only [go_sem, reduceCtorEq, Nat.reduceAdd, Nat.reduceSub, Nat.reduceMul, Nat.reduceLT, Nat.reduceLeDiff, Nat.reduceEqDiff, Nat.reduceBEq, Int.reduceToNat, Int.reduceLT, Int.reduceLE, Int.reduceEq, Int.reduceNeg, Int.reduceAdd, Int.reduceSub, Int.reduceMul, ↓reduceIte, Int.reduceBEq, Int.reduceBNe, Ear.cells]
      refine PureV.weaken (l' := [e.av, .list .no 1 ((t ++ [lo + (i : Int)]).map (AV.int .i64))]) ?_ ih' _ _ ?_
      · simp [wkL, wk, wk1, wk0, Ear.av]
      · simp -implicitDefEqProofs (maxSteps := 2000000) (disch := omega) only [go_sem, reduceCtorEq, Nat.reduceAdd, Nat.reduceSub, Nat.reduceMul, Nat.reduceLT, Nat.reduceLeDiff, Nat.reduceEqDiff, Nat.reduceBEq, Int.reduceToNat, Int.reduceLT, Int.reduceLE, Int.reduceEq, Int.reduceNeg, Int.reduceAdd, Int.reduceSub, Int.reduceMul, ↓reduceIte, Int.reduceBEq, Int.reduceBNe, tss]
        exact (ih2 trivial (j ++ [.tail (t.length + 1) 1])).castS (by simp [Ear.cells]) (by simp [upd, ins, subF, lookA, Int.add_assoc])
    · intro j _
      have hbl : ((List.range (hi - lo + 1).toNat).flatMap fun (k : Nat) => rallL e (t ++ [lo + k])).length ≤ (hi - lo + 1).toNat * 441 := flatMap_len _ fun k _ => hle _
      generalize ((List.range (hi - lo + 1).toNat).flatMap fun (k : Nat) => rallL e (t ++ [lo + k])) = B at hbl ⊢
      simp -implicitDefEqProofs (maxSteps := 2000000) (disch := omega) only [go_sem, reduceCtorEq, Nat.reduceAdd, Nat.reduceSub, Nat.reduceMul, Nat.reduceLT, Nat.reduceLeDiff, Nat.reduceEqDiff, Nat.reduceBEq, Int.reduceToNat, Int.reduceLT, Int.reduceLE, Int.reduceEq, Int.reduceNeg, Int.reduceAdd, Int.reduceSub, Int.reduceMul, ↓reduceIte, Int.reduceBEq, Int.reduceBNe, Ear.cells, tss]
end Go.Proofs
set_option linter.unusedSimpArgs false
set_option linter.unusedVariables false
set_option maxRecDepth 100000
namespace Go.Proofs
open Go Go.Mu

/-- The truths as lists, one number for each tongue. -/
def truthsR (e : Ear) : List (List Int) := (truthsL e).map (List.take e.tones.length)
theorem rallL_nil (e : Ear) : rallL e [] = truthsR e := rfl
theorem tg_take {t : List Int} {m : Nat} {i : Int} (h : i < m) (h0 : 0 ≤ i) : tg (t.take m) i = tg t i := by
  simp only [tg, List.getD]
  rw [List.getElem?_take_of_lt (by omega)]
theorem truthsR_len {e : Ear} (he : OkE e) : (truthsR e).length ≤ 9261 := by unfold truthsR; rw [List.length_map]; exact truthsL_len he
theorem truthsR_ok {e : Ear} (he : OkE e) : ∀ t ∈ truthsR e, t.length = e.tones.length ∧ small t := fun t ht => by
  obtain ⟨u, hu, rfl⟩ := List.mem_map.1 ht
  obtain ⟨h1, h2⟩ := truthsL_ok he u hu
  have := he.len
  exact ⟨by rw [List.length_take]; omega, fun x hx => h2 x (List.mem_of_mem_take hx)⟩
theorem truthsR_nil {e : Ear} : truthsR e = [] ↔ truthsL e = [] := by unfold truthsR; simp
theorem spanL_map (num : List Int → Int) (f : List Int → List Int) {l : List (List Int)} (h : l ≠ []) : spanL num (l.map f) = spanL (fun t => num (f t)) l := by
  cases l with
  | nil => exact absurd rfl h
  | cons a l => simp only [spanL, List.map_cons, List.headD_cons, List.foldl_cons, List.foldl_map]; rfl
theorem foldl_congr' {α β : Type} {f g : β → α → β} : ∀ {l : List α} {b : β}, (∀ b, ∀ x ∈ l, f b x = g b x) → l.foldl f b = l.foldl g b
  | [], _, _ => rfl
  | a :: l, b, h => by
    simp only [List.foldl_cons]
    rw [h b a (by simp)]
    exact foldl_congr' fun b x hx => h b x (by simp [hx])
theorem spanL_congr {num num' : List Int → Int} {l : List (List Int)} (h : l ≠ []) (hn : ∀ t ∈ l, num t = num' t) : spanL num l = spanL num' l := by
  cases l with
  | nil => exact absurd rfl h
  | cons a l =>
    unfold spanL
    simp only [List.headD_cons]
    rw [hn a (by simp)]
    exact foldl_congr' fun b x hx => by simp only [spanS]; rw [hn x hx]
theorem spanR {e : Ear} (num num' : List Int → Int) (h : truthsL e ≠ []) (hn : ∀ t, num (t.take e.tones.length) = num' t) : spanL num (truthsR e) = spanL num' (truthsL e) := by
  unfold truthsR
  rw [spanL_map _ _ h]
  exact spanL_congr h fun t _ => hn t
theorem rcount {e : Ear} (p q : List Int → Bool) (hn : ∀ t, p (t.take e.tones.length) = q t) : ((truthsR e).filter p).length = ((truthsL e).filter q).length := by
  unfold truthsR
  rw [List.filter_map, List.length_map]
  congr 2
  funext t
  exact hn t
theorem truthsR_length (e : Ear) : (truthsR e).length = (truthsL e).length := by unfold truthsR; simp
def rall_s := spec2 tEar tIs fun e t => if ck e = 0 ∧ t.length ≤ e.tones.length ∧ small t then some (tss (rallL e t)) else none
theorem rall_ok : ∀ xs v, rall_s xs = some v → PureV Try.prog 82 xs v :=
  spec2_ok fun e t v h => by have h := someIf h; rw [← h.2]; exact rall_p e h.1.1 (e.tones.length - t.length) t (by omega) h.1.2.2
theorem rverd_p (so n : Int) : PureV Try.prog 112 [.int .i64 so, .int .i64 n] (.int .i64 (if so = n then 1 else if so = 0 then 2 else 3)) := by
  refine PureV.of_ev (E := Try.E 11 (fun _ => ([], [])) fs0) (Try.envOK 11 (fun _ => ([], [])) fs0 fs0_ok) (.int) Try.kp112 Try.func112 rfl (by kernel_rfl) (by simp [Try.E]) (Callable.of Try.func112 (by kernel_rfl) (by kernel_rfl)) (by kernel_rfl) ?_
  intro σ
  simp -implicitDefEqProofs (maxSteps := 2000000) (disch := omega) only [go_sem, reduceCtorEq, Nat.reduceAdd, Nat.reduceSub, Nat.reduceMul, Nat.reduceLT, Nat.reduceLeDiff, Nat.reduceEqDiff, Nat.reduceBEq, Int.reduceToNat, Int.reduceLT, Int.reduceLE, Int.reduceEq, Int.reduceNeg, Int.reduceAdd, Int.reduceSub, Int.reduceMul, ↓reduceIte, Int.reduceBEq, Int.reduceBNe]
  grind
def rverd_s := spec2 tI tI fun so n => some (.int .i64 (if so = n then 1 else if so = 0 then 2 else 3))
theorem rverd_ok : ∀ xs v, rverd_s xs = some v → PureV Try.prog 112 xs v :=
  spec2_ok fun so n v h => by simp only [Option.some.injEq] at h; rw [← h]; exact rverd_p so n
theorem verd_int {a b : Nat} : verd a b = if (a : Int) = b then 1 else if (a : Int) = 0 then 2 else 3 := by unfold verd; grind
theorem verd_fold {a b : Nat} : (if (a : Int) = b then (1 : Int) else if (a : Int) = 0 then 2 else 3) = verd a b := verd_int.symm
def fs108 (f : FuncId) (xs : List AV) : Option AV := if f = 82 then rall_s xs else if f = 112 then rverd_s xs else fs107 f xs
theorem fs108_ok : ∀ f xs v, fs108 f xs = some v → PureV Try.prog f xs v := by
  intro f xs v h
  unfold fs108 at h
  split at h
  · rename_i e; subst e; exact rall_ok _ _ h
  split at h
  · rename_i e; subst e; exact rverd_ok _ _ h
  exact fs107_ok _ _ _ h
attribute [go_sem] fs108 rall_s rverd_s
theorem small0 : small [] := fun x hx => by cases hx
/-- An element of a list of lists. -/
theorem idx_iss {L : List (List Int)} {i : Nat} (h : i < L.length) : idx (L.map isv) (i : Int) = some (isv L[i]) := idx_map h
theorem ends_p (L : List (List Int)) (x : Int) (hL : L ≠ []) (hl : L.length ≤ 4294967296) (hx : 0 ≤ x) (hxl : ∀ t ∈ L, x < t.length) : PureV Try.prog 83 [tss L, .int .i64 x] (spanL (fun t => tg t x) L).av := by
  refine PureV.of_ev (E := Try.E 48 Try.ord83 fs0) (Try.envOK 48 Try.ord83 fs0 fs0_ok) (Rng.plain _) Try.kp83 Try.func83 rfl (by kernel_rfl) (by simp [Try.E]) (Callable.of Try.func83 (by kernel_rfl) (by kernel_rfl)) (by kernel_rfl) ?_
  intro σ
  have h0 : 0 < L.length := List.length_pos_iff.2 hL
  have hidx : idx (L.map isv) 0 = some (isv L[0]) := idx_map (i := 0) h0
  have hx0 : idx (L[0].map (AV.int .i64)) x = some (.int .i64 (tg L[0] x)) := idx_tg hx (hxl _ (List.getElem_mem h0))
  have hd : L.headD [] = L[0] := by cases L with | nil => exact absurd rfl hL | cons a b => rfl
  have hsp : spanL (fun t => tg t x) L = L.foldl (spanS fun t => tg t x) ⟨tg L[0] x, tg L[0] x⟩ := by rw [spanL, hd]
  rw [hsp]
  generalize tg L[0] x = v0 at hx0 ⊢
  generalize L[0] = T0 at hidx hx0
  simp only [tss]
  simp -implicitDefEqProofs (maxSteps := 2000000) (disch := omega) only [go_sem, reduceCtorEq, Nat.reduceAdd, Nat.reduceSub, Nat.reduceMul, Nat.reduceLT, Nat.reduceLeDiff, Nat.reduceEqDiff, Nat.reduceBEq, Int.reduceToNat, Int.reduceLT, Int.reduceLE, Int.reduceEq, Int.reduceNeg, Int.reduceAdd, Int.reduceSub, Int.reduceMul, ↓reduceIte, Int.reduceBEq, Int.reduceBNe, hidx, hx0, isv]
  have hf0 : (L.take 0).foldl (spanS fun t => tg t x) ⟨v0, v0⟩ = ⟨v0, v0⟩ := rfl
  have hfa := foldl_all (spanS fun t => tg t x) ⟨v0, v0⟩ L
  have hft := foldl_take (spanS fun t => tg t x) ⟨v0, v0⟩ L
  generalize hF : (fun i => (L.take i).foldl (spanS fun t => tg t x) ⟨v0, v0⟩) = F
  have hF' : ∀ i, (L.take i).foldl (spanS fun t => tg t x) ⟨v0, v0⟩ = F i := fun i => by rw [← hF]
  simp only [hF'] at hf0 hfa hft
  refine ARun.forS (Try.envOK 48 Try.ord83 fs0 fs0_ok) L.length (fun _ => True) (fun i => [(6, .int .i64 i)]) (fun i j => σ ++ (.cells [.int .i64 0, .int .i64 0] :: .cells [.int .i64 (F i).lo, .int .i64 (F i).hi] :: j)) [] (by kernel_rfl) (by simp [hf0]) (by simp [upd, ins, subF, lookA]) trivial ?_ ?_
  · intro i j hi _ ih
    have hri : idx (L.map isv) (i : Int) = some (isv L[i]) := idx_iss hi
    have hrx : idx (L[i].map (AV.int .i64)) x = some (.int .i64 (tg L[i] x)) := idx_tg hx (hxl _ (List.getElem_mem hi))
    rw [hft i hi] at ih
    generalize F i = f at ih ⊢
    simp only [spanS, mn, mx] at ih
    generalize tg L[i] x = vi at hrx ih
    generalize L[i] = Ti at hri hrx
    simp -implicitDefEqProofs (maxSteps := 2000000) (disch := omega) only [go_sem, reduceCtorEq, Nat.reduceAdd, Nat.reduceSub, Nat.reduceMul, Nat.reduceLT, Nat.reduceLeDiff, Nat.reduceEqDiff, Nat.reduceBEq, Int.reduceToNat, Int.reduceLT, Int.reduceLE, Int.reduceEq, Int.reduceNeg, Int.reduceAdd, Int.reduceSub, Int.reduceMul, ↓reduceIte, Int.reduceBEq, Int.reduceBNe, hri, hrx, isv]
    exact (ih trivial j).castS rfl (by simp [upd, ins, subF, lookA])
  · intro j _
    rw [← hfa]
    generalize F L.length = f
    simp -implicitDefEqProofs (maxSteps := 2000000) (disch := omega) only [go_sem, reduceCtorEq, Nat.reduceAdd, Nat.reduceSub, Nat.reduceMul, Nat.reduceLT, Nat.reduceLeDiff, Nat.reduceEqDiff, Nat.reduceBEq, Int.reduceToNat, Int.reduceLT, Int.reduceLE, Int.reduceEq, Int.reduceNeg, Int.reduceAdd, Int.reduceSub, Int.reduceMul, ↓reduceIte, Int.reduceBEq, Int.reduceBNe, Rng.av]
/-- A place that all lists have. -/
def inT (x : Int) (L : List (List Int)) : Prop := ∀ t ∈ L, x < t.length
instance (x : Int) (L : List (List Int)) : Decidable (inT x L) := by unfold inT; infer_instance
def ends_s := spec2 tIss tI fun L x => if L ≠ [] ∧ L.length ≤ 4294967296 ∧ 0 ≤ x ∧ inT x L then some (spanL (fun t => tg t x) L).av else none
theorem ends_ok : ∀ xs v, ends_s xs = some v → PureV Try.prog 83 xs v :=
  spec2_ok fun L x v h => by have h := someIf h; rw [← h.2]; exact ends_p L x h.1.1 h.1.2.1 h.1.2.2.1 h.1.2.2.2
theorem rwithin_p (L : List (List Int)) (x : Int) (w : Rng) (hl : L.length ≤ 4294967296) (hx : 0 ≤ x) (hxl : ∀ t ∈ L, x < t.length) : PureV Try.prog 108 [tss L, .int .i64 x, w.av] (.int .i64 (verd (L.filter (qis x w)).length L.length)) := by
  refine PureV.of_ev (E := Try.E 33 Try.ord108 fs108) (Try.envOK 33 Try.ord108 fs108 fs108_ok) (.int) Try.kp108 Try.func108 rfl (by kernel_rfl) (by simp [Try.E]) (Callable.of Try.func108 (by kernel_rfl) (by kernel_rfl)) (by kernel_rfl) ?_
  intro σ
  obtain ⟨lo, hi⟩ := w
  simp only [tss, Rng.av]
  simp -implicitDefEqProofs (maxSteps := 2000000) (disch := omega) only [go_sem, reduceCtorEq, Nat.reduceAdd, Nat.reduceSub, Nat.reduceMul, Nat.reduceLT, Nat.reduceLeDiff, Nat.reduceEqDiff, Nat.reduceBEq, Int.reduceToNat, Int.reduceLT, Int.reduceLE, Int.reduceEq, Int.reduceNeg, Int.reduceAdd, Int.reduceSub, Int.reduceMul, ↓reduceIte, Int.reduceBEq, Int.reduceBNe]
  refine ARun.forS (Try.envOK 33 Try.ord108 fs108 fs108_ok) L.length (fun _ => True) (fun i => [(7, .int .i64 (((L.take i).filter (qis x ⟨lo, hi⟩)).length : Int)), (8, .int .i64 i)]) (fun i j => σ ++ (.cells [.int .i64 lo, .int .i64 hi] :: j)) [] (by kernel_rfl) (by simp) (by simp [upd, ins, subF, lookA]) trivial ?_ ?_
  · intro i j hi' _ ih
    have hri : idx (L.map isv) (i : Int) = some (isv L[i]) := idx_iss hi'
    have hrx : idx (L[i].map (AV.int .i64)) x = some (.int .i64 (tg L[i] x)) := idx_tg hx (hxl _ (List.getElem_mem hi'))
    have hfs := filter_take_succ (f := qis x ⟨lo, hi⟩) hi'
    have hle : ((L.take i).filter (qis x ⟨lo, hi⟩)).length ≤ i := Nat.le_trans (List.length_filter_le _ _) (List.length_take_le _ _)
    rw [hfs] at ih
    have hq : qis x ⟨lo, hi⟩ L[i] = decide (lo ≤ tg L[i] x ∧ tg L[i] x ≤ hi) := rfl
    rw [hq] at ih
    generalize ((L.take i).filter (qis x ⟨lo, hi⟩)).length = c at hle ih ⊢
    generalize tg L[i] x = vi at hrx ih
    generalize L[i] = Ti at hri hrx
    clear hfs hq
    simp -implicitDefEqProofs (maxSteps := 2000000) (disch := omega) only [go_sem, reduceCtorEq, Nat.reduceAdd, Nat.reduceSub, Nat.reduceMul, Nat.reduceLT, Nat.reduceLeDiff, Nat.reduceEqDiff, Nat.reduceBEq, Int.reduceToNat, Int.reduceLT, Int.reduceLE, Int.reduceEq, Int.reduceNeg, Int.reduceAdd, Int.reduceSub, Int.reduceMul, ↓reduceIte, Int.reduceBEq, Int.reduceBNe, hri, hrx, isv]
    refine ⟨fun h1 h2 => ?_, fun h1 => ?_⟩
    · have hd : decide (lo ≤ vi ∧ vi ≤ hi) = true := decide_eq_true ⟨h1, h2⟩
      rw [hd] at ih
      exact (ih trivial j).castS rfl (by simp [upd, ins, subF, lookA])
    · have hd : decide (lo ≤ vi ∧ vi ≤ hi) = false := decide_eq_false h1
      rw [hd] at ih
      exact (ih trivial j).castS rfl (by simp [upd, ins, subF, lookA])
  · intro j _
    rw [List.take_length]
    simp -implicitDefEqProofs (maxSteps := 2000000) (disch := omega) only [go_sem, reduceCtorEq, Nat.reduceAdd, Nat.reduceSub, Nat.reduceMul, Nat.reduceLT, Nat.reduceLeDiff, Nat.reduceEqDiff, Nat.reduceBEq, Int.reduceToNat, Int.reduceLT, Int.reduceLE, Int.reduceEq, Int.reduceNeg, Int.reduceAdd, Int.reduceSub, Int.reduceMul, ↓reduceIte, Int.reduceBEq, Int.reduceBNe, verd_fold]
def rwithin_s := spec3 tIss tI tRng fun L x w => if L.length ≤ 4294967296 ∧ 0 ≤ x ∧ inT x L then some (.int .i64 (verd (L.filter (qis x w)).length L.length)) else none
theorem rwithin_ok : ∀ xs v, rwithin_s xs = some v → PureV Try.prog 108 xs v :=
  spec3_ok fun L x w v h => by have h := someIf h; rw [← h.2]; exact rwithin_p L x w h.1.1 h.1.2.1 h.1.2.2
def fs109 (f : FuncId) (xs : List AV) : Option AV := if f = 83 then ends_s xs else if f = 108 then rwithin_s xs else fs108 f xs
theorem fs109_ok : ∀ f xs v, fs109 f xs = some v → PureV Try.prog f xs v := by
  intro f xs v h
  unfold fs109 at h
  split at h
  · rename_i e; subst e; exact ends_ok _ _ h
  split at h
  · rename_i e; subst e; exact rwithin_ok _ _ h
  exact fs108_ok _ _ _ h
attribute [go_sem] fs109 ends_s rwithin_s
end Go.Proofs
set_option linter.unusedSimpArgs false
set_option linter.unusedVariables false
set_option maxRecDepth 100000
namespace Go.Proofs
open Go Go.Mu

theorem rtongue_p (e : Ear) (x : Int) (h1 : e.tones.length ≤ 4294967296) (h2 : e.rds.length ≤ 4294967296) : PureV Try.prog 81 [e.av, .int .i64 x] (.int .i64 (if ck e ≠ 0 then ck e else if 0 ≤ x ∧ x ≤ e.tones.length - 1 then 0 else 3)) := by
  refine PureV.of_ev (E := Try.E 18 (fun _ => ([], [])) fs109) (Try.envOK 18 (fun _ => ([], [])) fs109 fs109_ok) (.int) Try.kp81 Try.func81 rfl (by kernel_rfl) (by simp [Try.E]) (Callable.of Try.func81 (by kernel_rfl) (by kernel_rfl)) (by kernel_rfl) ?_
  intro σ
  obtain ⟨sl, ts, rs⟩ := e
  simp only at h1 h2
  simp only [Ear.av]
  simp -implicitDefEqProofs (maxSteps := 2000000) (disch := omega) only [go_sem, reduceCtorEq, Nat.reduceAdd, Nat.reduceSub, Nat.reduceMul, Nat.reduceLT, Nat.reduceLeDiff, Nat.reduceEqDiff, Nat.reduceBEq, Int.reduceToNat, Int.reduceLT, Int.reduceLE, Int.reduceEq, Int.reduceNeg, Int.reduceAdd, Int.reduceSub, Int.reduceMul, ↓reduceIte, Int.reduceBEq, Int.reduceBNe]
  grind
def rtongue_s := spec2 tEar tI fun e x => if e.tones.length ≤ 4294967296 ∧ e.rds.length ≤ 4294967296 then some (.int .i64 (if ck e ≠ 0 then ck e else if 0 ≤ x ∧ x ≤ e.tones.length - 1 then 0 else 3)) else none
theorem rtongue_ok : ∀ xs v, rtongue_s xs = some v → PureV Try.prog 81 xs v :=
  spec2_ok fun e x v h => by have h := someIf h; rw [← h.2]; exact rtongue_p e x h.1.1 h.1.2
theorem rtwo_p (e : Ear) (x y : Int) (h1 : e.tones.length ≤ 4294967296) (h2 : e.rds.length ≤ 4294967296) : PureV Try.prog 111 [e.av, .int .i64 x, .int .i64 y] (.int .i64 (if ck e ≠ 0 then ck e else ckTwo e.tones.length x y)) := by
  refine PureV.of_ev (E := Try.E 32 (fun _ => ([], [])) fs109) (Try.envOK 32 (fun _ => ([], [])) fs109 fs109_ok) (.int) Try.kp111 Try.func111 rfl (by kernel_rfl) (by simp [Try.E]) (Callable.of Try.func111 (by kernel_rfl) (by kernel_rfl)) (by kernel_rfl) ?_
  intro σ
  obtain ⟨sl, ts, rs⟩ := e
  simp only at h1 h2
  simp only [Ear.av]
  simp -implicitDefEqProofs (maxSteps := 2000000) (disch := omega) only [go_sem, reduceCtorEq, Nat.reduceAdd, Nat.reduceSub, Nat.reduceMul, Nat.reduceLT, Nat.reduceLeDiff, Nat.reduceEqDiff, Nat.reduceBEq, Int.reduceToNat, Int.reduceLT, Int.reduceLE, Int.reduceEq, Int.reduceNeg, Int.reduceAdd, Int.reduceSub, Int.reduceMul, ↓reduceIte, Int.reduceBEq, Int.reduceBNe]
  simp only [ckTwo]; grind
def rtwo_s := spec3 tEar tI tI fun e x y => if e.tones.length ≤ 4294967296 ∧ e.rds.length ≤ 4294967296 then some (.int .i64 (if ck e ≠ 0 then ck e else ckTwo e.tones.length x y)) else none
theorem rtwo_ok : ∀ xs v, rtwo_s xs = some v → PureV Try.prog 111 xs v :=
  spec3_ok fun e x y v h => by have h := someIf h; rw [← h.2]; exact rtwo_p e x y h.1.1 h.1.2
def fs110 (f : FuncId) (xs : List AV) : Option AV := if f = 81 then rtongue_s xs else if f = 111 then rtwo_s xs else fs109 f xs
theorem fs110_ok : ∀ f xs v, fs110 f xs = some v → PureV Try.prog f xs v := by
  intro f xs v h
  unfold fs110 at h
  split at h
  · rename_i e; subst e; exact rtongue_ok _ _ h
  split at h
  · rename_i e; subst e; exact rtwo_ok _ _ h
  exact fs109_ok _ _ _ h
attribute [go_sem] fs110 rtongue_s rtwo_s
theorem rwant_p (e : Ear) (x : Int) (w : Rng) (h1 : e.tones.length ≤ 4294967296) (h2 : e.rds.length ≤ 4294967296) : PureV Try.prog 90 [e.av, .int .i64 x, w.av] (.int .i64 (if ck e ≠ 0 then ck e else ckWant e.tones.length x w)) := by
  refine PureV.of_ev (E := Try.E 19 (fun _ => ([], [])) fs110) (Try.envOK 19 (fun _ => ([], [])) fs110 fs110_ok) (.int) Try.kp90 Try.func90 rfl (by kernel_rfl) (by simp [Try.E]) (Callable.of Try.func90 (by kernel_rfl) (by kernel_rfl)) (by kernel_rfl) ?_
  intro σ
  obtain ⟨lo, hi⟩ := w
  obtain ⟨sl, ts, rs⟩ := e
  simp only at h1 h2
  simp only [Ear.av, Rng.av]
  simp -implicitDefEqProofs (maxSteps := 2000000) (disch := omega) only [go_sem, reduceCtorEq, Nat.reduceAdd, Nat.reduceSub, Nat.reduceMul, Nat.reduceLT, Nat.reduceLeDiff, Nat.reduceEqDiff, Nat.reduceBEq, Int.reduceToNat, Int.reduceLT, Int.reduceLE, Int.reduceEq, Int.reduceNeg, Int.reduceAdd, Int.reduceSub, Int.reduceMul, ↓reduceIte, Int.reduceBEq, Int.reduceBNe]
  simp only [ckWant]; grind
def rwant_s := spec3 tEar tI tRng fun e x w => if e.tones.length ≤ 4294967296 ∧ e.rds.length ≤ 4294967296 then some (.int .i64 (if ck e ≠ 0 then ck e else ckWant e.tones.length x w)) else none
theorem rwant_ok : ∀ xs v, rwant_s xs = some v → PureV Try.prog 90 xs v :=
  spec3_ok fun e x w v h => by have h := someIf h; rw [← h.2]; exact rwant_p e x w h.1.1 h.1.2
def fs111 (f : FuncId) (xs : List AV) : Option AV := if f = 90 then rwant_s xs else fs110 f xs
theorem fs111_ok : ∀ f xs v, fs111 f xs = some v → PureV Try.prog f xs v := by
  intro f xs v h
  unfold fs111 at h
  split at h
  · rename_i e; subst e; exact rwant_ok _ _ h
  exact fs110_ok _ _ _ h
attribute [go_sem] fs111 rwant_s
end Go.Proofs
set_option linter.unusedSimpArgs false
set_option linter.unusedVariables false
set_option maxRecDepth 100000
namespace Go.Proofs
open Go Go.Mu

theorem askE {e : Ear} {w : Int} : (askL e w).2 = if ck e ≠ 0 then ck e else if w ≠ 0 then w else if truthsL e = [] then 9 else 0 := by
  unfold askL knownL
  split
  · rfl
  · split
    · rfl
    · split <;> rfl
set_option maxHeartbeats 1000000 in
theorem rhigher_p (e : Ear) (a b : Int) (h1 : e.tones.length ≤ 4294967296) (h2 : e.rds.length ≤ 4294967296) : PureV Try.prog 45 [e.av, .int .i64 a, .int .i64 b] (.tup [.int .i64 (higherL e a b).1, .int .i64 (higherL e a b).2]) := by
  refine PureV.of_ev (E := Try.E 51 Try.ord45 fs111) (Try.envOK 51 Try.ord45 fs111 fs111_ok) (ii_plain) Try.kp45 Try.func45 rfl (by kernel_rfl) (by simp [Try.E]) (Callable.of Try.func45 (by kernel_rfl) (by kernel_rfl)) (by kernel_rfl) ?_
  intro σ
  by_cases hk : (askL e (ckTwo e.tones.length a b)).2 = 0
  · obtain ⟨hc, hw, hn, hke⟩ := askL_ok hk
    have he := okE_of_ck hc
    obtain ⟨ha, hb, _⟩ := ckTwo_ok he.len hw
    have ha2 : a < e.tones.length ∧ b < e.tones.length := by simp only [ckTwo] at hw; grind
    have hb' := truthsR_len he
    have hR : rallL e [] = truthsR e := rfl
    have hR0 : truthsR e ≠ [] := fun h => hn (truthsR_nil.1 h)
    have hok := truthsR_ok he
    have hd : higherL e a b = (verd ((truthsR e).filter fun t => decide (tg t b < tg t a)).length (truthsR e).length, 0) := by
      unfold higherL
      rw [if_pos hk, truthsR_length, rcount (e := e) (fun t => decide (tg t b < tg t a)) (fun t => decide (tg t b < tg t a)) fun t => by rw [tg_take ha2.1 (by omega), tg_take ha2.2 (by omega)]]
    rw [hd]
    obtain ⟨s, ts, rs⟩ := e
    simp only [Ear.av]
    simp only at h1 h2 ha2 hw hc hok
    generalize truthsR ⟨s, ts, rs⟩ = L at hb' hR hR0 hok ⊢
    have hL0 : ¬ L.length = 0 := fun h => hR0 (List.length_eq_zero_iff.1 h)
    simp -implicitDefEqProofs (maxSteps := 2000000) (disch := omega) only [go_sem, reduceCtorEq, Nat.reduceAdd, Nat.reduceSub, Nat.reduceMul, Nat.reduceLT, Nat.reduceLeDiff, Nat.reduceEqDiff, Nat.reduceBEq, Int.reduceToNat, Int.reduceLT, Int.reduceLE, Int.reduceEq, Int.reduceNeg, Int.reduceAdd, Int.reduceSub, Int.reduceMul, ↓reduceIte, Int.reduceBEq, Int.reduceBNe, hc, hw, small0, hR, tss]
    refine ARun.forS (Try.envOK 51 Try.ord45 fs111 fs111_ok) L.length (fun _ => True) (fun i => [(10, .int .i64 (((L.take i).filter fun t => decide (tg t b < tg t a)).length : Int)), (11, .int .i64 i)]) (fun i j => σ ++ (.cells [.int .i64 s, .list .no 2 (ts.map Rng.av), .list .no 6 (rs.map Rd.av)] :: j)) [] (by kernel_rfl) (by simp) (by simp [upd, ins, subF, lookA]) trivial ?_ ?_
    · intro i j hi' _ ih
      have hri : idx (L.map isv) (i : Int) = some (isv L[i]) := idx_iss hi'
      have hlt := (hok _ (List.getElem_mem hi')).1
      have hra : idx (L[i].map (AV.int .i64)) a = some (.int .i64 (tg L[i] a)) := idx_tg ha.1 (by omega)
      have hrb : idx (L[i].map (AV.int .i64)) b = some (.int .i64 (tg L[i] b)) := idx_tg hb.1 (by omega)
      have hfs := filter_take_succ (f := fun t => decide (tg t b < tg t a)) hi'
      have hle : ((L.take i).filter fun t => decide (tg t b < tg t a)).length ≤ i := Nat.le_trans (List.length_filter_le _ _) (List.length_take_le _ _)
      rw [hfs] at ih
      generalize ((L.take i).filter fun t => decide (tg t b < tg t a)).length = c at hle ih ⊢
      generalize tg L[i] a = va at hra ih
      generalize tg L[i] b = vb at hrb ih
      generalize L[i] = Ti at hri hra hrb
      clear hfs hok hlt
      simp -implicitDefEqProofs (maxSteps := 2000000) (disch := omega) only [go_sem, reduceCtorEq, Nat.reduceAdd, Nat.reduceSub, Nat.reduceMul, Nat.reduceLT, Nat.reduceLeDiff, Nat.reduceEqDiff, Nat.reduceBEq, Int.reduceToNat, Int.reduceLT, Int.reduceLE, Int.reduceEq, Int.reduceNeg, Int.reduceAdd, Int.reduceSub, Int.reduceMul, ↓reduceIte, Int.reduceBEq, Int.reduceBNe, hri, hra, hrb, isv]
      refine ⟨fun h1 => ?_, fun h1 => ?_⟩
      · have hd : decide (vb < va) = true := decide_eq_true h1
        rw [hd] at ih
        exact (ih trivial j).castS rfl (by simp [upd, ins, subF, lookA])
      · have hd : decide (vb < va) = false := decide_eq_false h1
        rw [hd] at ih
        exact (ih trivial j).castS rfl (by simp [upd, ins, subF, lookA])
    · intro j _
      rw [List.take_length]
      simp -implicitDefEqProofs (maxSteps := 2000000) (disch := omega) only [go_sem, reduceCtorEq, Nat.reduceAdd, Nat.reduceSub, Nat.reduceMul, Nat.reduceLT, Nat.reduceLeDiff, Nat.reduceEqDiff, Nat.reduceBEq, Int.reduceToNat, Int.reduceLT, Int.reduceLE, Int.reduceEq, Int.reduceNeg, Int.reduceAdd, Int.reduceSub, Int.reduceMul, ↓reduceIte, Int.reduceBEq, Int.reduceBNe, verd_fold]
  · have hd : higherL e a b = (0, (askL e (ckTwo e.tones.length a b)).2) := by unfold higherL; rw [if_neg hk]
    rw [hd]
    rw [askE] at hk ⊢
    have hR : ck e = 0 → (rallL e []).length = (truthsL e).length := fun _ => truthsR_length e
    obtain ⟨s, ts, rs⟩ := e
    simp only [Ear.av]
    simp only at h1 h2
    by_cases hc : ck ⟨s, ts, rs⟩ = 0
    · rw [if_neg (by simp [hc])] at hk ⊢
      by_cases hw : ckTwo ts.length a b = 0
      · rw [if_neg (by simp [hw])] at hk ⊢
        have hn : truthsL ⟨s, ts, rs⟩ = [] := by
          apply Classical.byContradiction
          intro h; rw [if_neg h] at hk; exact hk rfl
        have hR2 : rallL ⟨s, ts, rs⟩ [] = [] := truthsR_nil.2 hn
        rw [if_pos hn]
        simp -implicitDefEqProofs (maxSteps := 2000000) (disch := omega) only [go_sem, reduceCtorEq, Nat.reduceAdd, Nat.reduceSub, Nat.reduceMul, Nat.reduceLT, Nat.reduceLeDiff, Nat.reduceEqDiff, Nat.reduceBEq, Int.reduceToNat, Int.reduceLT, Int.reduceLE, Int.reduceEq, Int.reduceNeg, Int.reduceAdd, Int.reduceSub, Int.reduceMul, ↓reduceIte, Int.reduceBEq, Int.reduceBNe, hc, hw, small0, hR2, tss, List.map_nil]
      · rw [if_pos hw]
        generalize hq : ckTwo ts.length a b = q at hw ⊢
        simp -implicitDefEqProofs (maxSteps := 2000000) (disch := omega) only [go_sem, reduceCtorEq, Nat.reduceAdd, Nat.reduceSub, Nat.reduceMul, Nat.reduceLT, Nat.reduceLeDiff, Nat.reduceEqDiff, Nat.reduceBEq, Int.reduceToNat, Int.reduceLT, Int.reduceLE, Int.reduceEq, Int.reduceNeg, Int.reduceAdd, Int.reduceSub, Int.reduceMul, ↓reduceIte, Int.reduceBEq, Int.reduceBNe, hc, hq, hw]
    · rw [if_pos hc]
      simp -implicitDefEqProofs (maxSteps := 2000000) (disch := omega) only [go_sem, reduceCtorEq, Nat.reduceAdd, Nat.reduceSub, Nat.reduceMul, Nat.reduceLT, Nat.reduceLeDiff, Nat.reduceEqDiff, Nat.reduceBEq, Int.reduceToNat, Int.reduceLT, Int.reduceLE, Int.reduceEq, Int.reduceNeg, Int.reduceAdd, Int.reduceSub, Int.reduceMul, ↓reduceIte, Int.reduceBEq, Int.reduceBNe, hc]
end Go.Proofs
set_option linter.unusedSimpArgs false
set_option linter.unusedVariables false
set_option maxRecDepth 100000
namespace Go.Proofs
open Go Go.Mu

set_option maxHeartbeats 1000000 in
theorem rWithin_p (e : Ear) (x : Int) (w : Rng) (h1 : e.tones.length ≤ 4294967296) (h2 : e.rds.length ≤ 4294967296) : PureV Try.prog 43 [e.av, .int .i64 x, w.av] (.tup [.int .i64 (withinL e x w).1, .int .i64 (withinL e x w).2]) := by
  refine PureV.of_ev (E := Try.E 26 (fun _ => ([], [])) fs111) (Try.envOK 26 (fun _ => ([], [])) fs111 fs111_ok) (ii_plain) Try.kp43 Try.func43 rfl (by kernel_rfl) (by simp [Try.E]) (Callable.of Try.func43 (by kernel_rfl) (by kernel_rfl)) (by kernel_rfl) ?_
  intro σ
  by_cases hk : (askL e (ckWant e.tones.length x w)).2 = 0
  · obtain ⟨hc, hw, hn, hke⟩ := askL_ok hk
    have he := okE_of_ck hc
    have hx := ckWant_ok hw
    have hb' := truthsR_len he
    have hR : rallL e [] = truthsR e := rfl
    have hR0 : truthsR e ≠ [] := fun h => hn (truthsR_nil.1 h)
    have hok := truthsR_ok he
    have hd : withinL e x w = (verd ((truthsR e).filter (qis x w)).length (truthsR e).length, 0) := by
      unfold withinL
      rw [if_pos hk, truthsR_length, rcount (e := e) (qis x w) (qis x w) fun t => by unfold qis; rw [tg_take (by omega) (by omega)]]
    rw [hd]
    have hpre : inT x (truthsR e) := fun t ht => by rw [(hok t ht).1]; omega
    obtain ⟨s, ts, rs⟩ := e
    obtain ⟨lo, hi⟩ := w
    simp only [Ear.av, Rng.av]
    simp only at h1 h2 hw hc hx
    generalize truthsR ⟨s, ts, rs⟩ = L at hb' hR hR0 hok hpre ⊢
    have hL0 : ¬ L.length = 0 := fun h => hR0 (List.length_eq_zero_iff.1 h)
    clear hok
    simp -implicitDefEqProofs (maxSteps := 2000000) (disch := omega) only [go_sem, reduceCtorEq, Nat.reduceAdd, Nat.reduceSub, Nat.reduceMul, Nat.reduceLT, Nat.reduceLeDiff, Nat.reduceEqDiff, Nat.reduceBEq, Int.reduceToNat, Int.reduceLT, Int.reduceLE, Int.reduceEq, Int.reduceNeg, Int.reduceAdd, Int.reduceSub, Int.reduceMul, ↓reduceIte, Int.reduceBEq, Int.reduceBNe, hc, hw, small0, hR, tss, hpre]
  · have hd : withinL e x w = (0, (askL e (ckWant e.tones.length x w)).2) := by unfold withinL; rw [if_neg hk]
    rw [hd]
    rw [askE] at hk ⊢
    obtain ⟨s, ts, rs⟩ := e
    obtain ⟨lo, hi⟩ := w
    simp only [Ear.av, Rng.av]
    simp only at h1 h2
    by_cases hc : ck ⟨s, ts, rs⟩ = 0
    · rw [if_neg (by simp [hc])] at hk ⊢
      by_cases hw : ckWant ts.length x ⟨lo, hi⟩ = 0
      · rw [if_neg (by simp [hw])] at hk ⊢
        have hn : truthsL ⟨s, ts, rs⟩ = [] := by
          apply Classical.byContradiction
          intro h; rw [if_neg h] at hk; exact hk rfl
        have hR2 : rallL ⟨s, ts, rs⟩ [] = [] := truthsR_nil.2 hn
        rw [if_pos hn]
        simp -implicitDefEqProofs (maxSteps := 2000000) (disch := omega) only [go_sem, reduceCtorEq, Nat.reduceAdd, Nat.reduceSub, Nat.reduceMul, Nat.reduceLT, Nat.reduceLeDiff, Nat.reduceEqDiff, Nat.reduceBEq, Int.reduceToNat, Int.reduceLT, Int.reduceLE, Int.reduceEq, Int.reduceNeg, Int.reduceAdd, Int.reduceSub, Int.reduceMul, ↓reduceIte, Int.reduceBEq, Int.reduceBNe, hc, hw, small0, hR2, tss, List.map_nil]
      · rw [if_pos hw]
        generalize hq : ckWant ts.length x ⟨lo, hi⟩ = q at hw ⊢
        simp -implicitDefEqProofs (maxSteps := 2000000) (disch := omega) only [go_sem, reduceCtorEq, Nat.reduceAdd, Nat.reduceSub, Nat.reduceMul, Nat.reduceLT, Nat.reduceLeDiff, Nat.reduceEqDiff, Nat.reduceBEq, Int.reduceToNat, Int.reduceLT, Int.reduceLE, Int.reduceEq, Int.reduceNeg, Int.reduceAdd, Int.reduceSub, Int.reduceMul, ↓reduceIte, Int.reduceBEq, Int.reduceBNe, hc, hq, hw]
    · rw [if_pos hc]
      simp -implicitDefEqProofs (maxSteps := 2000000) (disch := omega) only [go_sem, reduceCtorEq, Nat.reduceAdd, Nat.reduceSub, Nat.reduceMul, Nat.reduceLT, Nat.reduceLeDiff, Nat.reduceEqDiff, Nat.reduceBEq, Int.reduceToNat, Int.reduceLT, Int.reduceLE, Int.reduceEq, Int.reduceNeg, Int.reduceAdd, Int.reduceSub, Int.reduceMul, ↓reduceIte, Int.reduceBEq, Int.reduceBNe, hc]
theorem spanS_first (num : List Int → Int) (t : List Int) (x : Rng) (h : x = ⟨num t, num t⟩) : spanS num x t = x := by
  subst h; simp only [spanS, mn, mx]; simp
set_option maxHeartbeats 1000000 in
theorem rBeats_p (e : Ear) (a b s : Int) (h1 : e.tones.length ≤ 4294967296) (h2 : e.rds.length ≤ 4294967296) : PureV Try.prog 47 [e.av, .int .i64 a, .int .i64 b, .int .i64 s] (.tup [(beatsL e a b s).1.av, .int .i64 (beatsL e a b s).2]) := by
  refine PureV.of_ev (E := Try.E 72 Try.ord47 fs111) (Try.envOK 72 Try.ord47 fs111 fs111_ok) (.tup (by simp; exact ⟨Rng.plain _, .int⟩)) Try.kp47 Try.func47 rfl (by kernel_rfl) (by simp [Try.E]) (Callable.of Try.func47 (by kernel_rfl) (by kernel_rfl)) (by kernel_rfl) ?_
  intro σ
  by_cases hk : (askL e (ckBeats e.tones.length a b s)).2 = 0
  · obtain ⟨hc, hw, hn, hke⟩ := askL_ok hk
    have he := okE_of_ck hc
    have hw2 : ckTwo e.tones.length a b = 0 := by
      unfold ckBeats at hw; split at hw
      · assumption
      · exact absurd hw (by assumption)
    have hs : 1 ≤ s ∧ s ≤ 20 := by
      unfold ckBeats at hw; rw [if_pos hw2] at hw; split at hw
      · assumption
      · cases hw
    obtain ⟨ha, hb, _⟩ := ckTwo_ok he.len hw2
    have ha2 : a < e.tones.length ∧ b < e.tones.length := by simp only [ckTwo] at hw2; grind
    have hb' := truthsR_len he
    have hR : rallL e [] = truthsR e := rfl
    have hR0 : truthsR e ≠ [] := fun h => hn (truthsR_nil.1 h)
    have hok := truthsR_ok he
    have hd : beatsL e a b s = (spanL (fun t => dist (tg t a) (tg t b) * s / 100) (truthsR e), 0) := by
      unfold beatsL
      rw [if_pos hk, spanR (e := e) _ (fun t => dist (tg t a) (tg t b) * s / 100) hn fun t => by rw [tg_take ha2.1 (by omega), tg_take ha2.2 (by omega)]]
    rw [hd]
    obtain ⟨sl, ts, rs⟩ := e
    simp only [Ear.av]
    simp only at h1 h2 ha2 hw hc hok hw2
    have hsd : decide (1 ≤ s ∧ s ≤ 20) = true := decide_eq_true hs
    generalize truthsR ⟨sl, ts, rs⟩ = L at hb' hR hR0 hok ⊢
    have hL0 : ¬ L.length = 0 := fun h => hR0 (List.length_eq_zero_iff.1 h)
    have hlp : 0 < L.length := by omega
    have hdl : L.headD [] = L[0] := by cases L with | nil => exact absurd rfl hR0 | cons a b => rfl
    obtain ⟨num, hnum⟩ : ∃ num : List Int → Int, num = fun t => dist (tg t a) (tg t b) * s / 100 := ⟨_, rfl⟩
    rw [← hnum]
    have hsp : spanL num L = L.foldl (spanS num) ⟨num L[0], num L[0]⟩ := by rw [spanL, hdl]
    rw [hsp]
    have hf0 : (L.take 0).foldl (spanS num) ⟨num L[0], num L[0]⟩ = ⟨num L[0], num L[0]⟩ := rfl
    have hfa := foldl_all (spanS num) ⟨num L[0], num L[0]⟩ L
    have hft := foldl_take (spanS num) ⟨num L[0], num L[0]⟩ L
    have hf1 := hft 0 hlp
    rw [hf0, spanS_first num L[0] _ rfl] at hf1
    obtain ⟨F, hF⟩ : ∃ F : Nat → Rng, F = fun i => (L.take i).foldl (spanS num) ⟨num L[0], num L[0]⟩ := ⟨_, rfl⟩
    have hF' : ∀ i, (L.take i).foldl (spanS num) ⟨num L[0], num L[0]⟩ = F i := fun i => by rw [hF]
    simp only [hF'] at hf0 hfa hft hf1
    obtain ⟨G, hG⟩ : ∃ G : Nat → Rng, G = fun i => if i = 0 then ⟨0, 0⟩ else F i := ⟨_, rfl⟩
    have hG0 : G 0 = ⟨0, 0⟩ := by rw [hG]; rfl
    have hGs : ∀ i, G (i + 1) = F (i + 1) := fun i => by rw [hG]; rfl
    have hGl : G L.length = F L.length := by rw [hG]; simp only; rw [if_neg hL0]
    clear hF hF' hsp hdl
    simp -implicitDefEqProofs (maxSteps := 2000000) (disch := omega) only [go_sem, reduceCtorEq, Nat.reduceAdd, Nat.reduceSub, Nat.reduceMul, Nat.reduceLT, Nat.reduceLeDiff, Nat.reduceEqDiff, Nat.reduceBEq, Int.reduceToNat, Int.reduceLT, Int.reduceLE, Int.reduceEq, Int.reduceNeg, Int.reduceAdd, Int.reduceSub, Int.reduceMul, ↓reduceIte, Int.reduceBEq, Int.reduceBNe, hc, hw2, hsd, small0, hR, tss]
    refine ARun.forS (Try.envOK 72 Try.ord47 fs111 fs111_ok) L.length (fun _ => True) (fun i => [(13, .int .i64 i)]) (fun i j => σ ++ (.cells [.int .i64 sl, .list .no 2 (ts.map Rng.av), .list .no 6 (rs.map Rd.av)] :: .cells [.int .i64 0, .int .i64 0] :: .cells [.int .i64 (G i).lo, .int .i64 (G i).hi] :: j)) [] (by kernel_rfl) (by simp [hG0]) (by simp [upd, ins, subF, lookA]) trivial ?_ ?_
    · intro i j hi' _ ih
      have hri : idx (L.map isv) (i : Int) = some (isv L[i]) := idx_iss hi'
      obtain ⟨hlt, hsm⟩ := hok _ (List.getElem_mem hi')
      have hra : idx (L[i].map (AV.int .i64)) a = some (.int .i64 (tg L[i] a)) := idx_tg ha.1 (by omega)
      have hrb : idx (L[i].map (AV.int .i64)) b = some (.int .i64 (tg L[i] b)) := idx_tg hb.1 (by omega)
      have hta := small_tg hsm a
      have htb := small_tg hsm b
      have hnx : num L[i] = dist (tg L[i] a) (tg L[i] b) * s / 100 := by rw [hnum]
      have hm := mul_le (dist_le hta htb) (show 0 ≤ s ∧ s ≤ 20 by omega)
      have hwr : IntKind.i64.wrap (dist (tg L[i] a) (tg L[i] b) * s) = dist (tg L[i] a) (tg L[i] b) * s := wrap64 (by omega) (by omega)
      have hdv : (dist (tg L[i] a) (tg L[i] b) * s).tdiv 100 = dist (tg L[i] a) (tg L[i] b) * s / 100 := Int.tdiv_eq_ediv_of_nonneg hm.1
      have hwr2 : IntKind.i64.wrap (num L[i]) = num L[i] := by rw [hnx]; exact wrap64 (by omega) (by omega)
      rw [← hnx] at hdv
      rw [hGs, hft i hi'] at ih
      simp only [spanS, mn, mx] at ih
      have hGi : i ≠ 0 → G i = F i := fun h => by rw [hG]; simp only; rw [if_neg h]
      have h00 : i = 0 → F i = ⟨num L[i], num L[i]⟩ := fun h => by subst h; exact hf0
      generalize tg L[i] a = va at hra hta hwr hdv
      generalize tg L[i] b = vb at hrb htb hwr hdv
      generalize num L[i] = ni at hdv hwr2 ih h00
      generalize L[i] = Ti at hri hra hrb
      clear hok hsm hlt hft hfa hf1 hf0 hGs hGl hnx
      rcases Nat.eq_zero_or_pos i with hi0 | hi0
      · have hz : ((i : Int) = 0) = True := eq_true (by omega)
        rw [h00 hi0] at ih
        clear hGi h00
        generalize G i = g
        simp -implicitDefEqProofs (maxSteps := 2000000) (disch := omega) only [go_sem, reduceCtorEq, Nat.reduceAdd, Nat.reduceSub, Nat.reduceMul, Nat.reduceLT, Nat.reduceLeDiff, Nat.reduceEqDiff, Nat.reduceBEq, Int.reduceToNat, Int.reduceLT, Int.reduceLE, Int.reduceEq, Int.reduceNeg, Int.reduceAdd, Int.reduceSub, Int.reduceMul, ↓reduceIte, Int.reduceBEq, Int.reduceBNe, hri, hra, hrb, isv, hwr, hdv, hwr2, hz]
        exact (ih trivial j).castS (by simp) (by simp [upd, ins, subF, lookA])
      · have hz : ¬ ((i : Int) = 0) := by omega
        rw [hGi (by omega)]
        clear hGi h00
        generalize F i = f at ih ⊢
        simp -implicitDefEqProofs (maxSteps := 2000000) (disch := omega) only [go_sem, reduceCtorEq, Nat.reduceAdd, Nat.reduceSub, Nat.reduceMul, Nat.reduceLT, Nat.reduceLeDiff, Nat.reduceEqDiff, Nat.reduceBEq, Int.reduceToNat, Int.reduceLT, Int.reduceLE, Int.reduceEq, Int.reduceNeg, Int.reduceAdd, Int.reduceSub, Int.reduceMul, ↓reduceIte, Int.reduceBEq, Int.reduceBNe, hri, hra, hrb, isv, hwr, hdv, hwr2, hz]
        exact (ih trivial j).castS (by simp [mn, mx]) (by simp [upd, ins, subF, lookA])
    · intro j _
      rw [hGl, hfa]
      generalize L.foldl (spanS num) ⟨num L[0], num L[0]⟩ = f
      simp -implicitDefEqProofs (maxSteps := 2000000) (disch := omega) only [go_sem, reduceCtorEq, Nat.reduceAdd, Nat.reduceSub, Nat.reduceMul, Nat.reduceLT, Nat.reduceLeDiff, Nat.reduceEqDiff, Nat.reduceBEq, Int.reduceToNat, Int.reduceLT, Int.reduceLE, Int.reduceEq, Int.reduceNeg, Int.reduceAdd, Int.reduceSub, Int.reduceMul, ↓reduceIte, Int.reduceBEq, Int.reduceBNe, Rng.av]
  · have hd : beatsL e a b s = (⟨0, 0⟩, (askL e (ckBeats e.tones.length a b s)).2) := by unfold beatsL; rw [if_neg hk]
    rw [hd]
    rw [askE] at hk ⊢
    obtain ⟨sl, ts, rs⟩ := e
    simp only [Ear.av, Rng.av]
    simp only at h1 h2
    by_cases hc : ck ⟨sl, ts, rs⟩ = 0
    · rw [if_neg (by simp [hc])] at hk ⊢
      by_cases hw : ckTwo ts.length a b = 0
      · by_cases hs : 1 ≤ s ∧ s ≤ 20
        · have hsd : decide (1 ≤ s ∧ s ≤ 20) = true := decide_eq_true hs
          have hv : ckBeats ts.length a b s = 0 := by unfold ckBeats; rw [if_pos hw, if_pos hs]
          rw [if_neg (by simp [hv])] at hk ⊢
          have hn : truthsL ⟨sl, ts, rs⟩ = [] := by
            apply Classical.byContradiction
            intro h; rw [if_neg h] at hk; exact hk rfl
          have hR2 : rallL ⟨sl, ts, rs⟩ [] = [] := truthsR_nil.2 hn
          rw [if_pos hn]
          simp -implicitDefEqProofs (maxSteps := 2000000) (disch := omega) only [go_sem, reduceCtorEq, Nat.reduceAdd, Nat.reduceSub, Nat.reduceMul, Nat.reduceLT, Nat.reduceLeDiff, Nat.reduceEqDiff, Nat.reduceBEq, Int.reduceToNat, Int.reduceLT, Int.reduceLE, Int.reduceEq, Int.reduceNeg, Int.reduceAdd, Int.reduceSub, Int.reduceMul, ↓reduceIte, Int.reduceBEq, Int.reduceBNe, hc, hw, hsd, small0, hR2, tss, List.map_nil]
        · have hsd : decide (1 ≤ s ∧ s ≤ 20) = false := decide_eq_false hs
          have hv : ckBeats ts.length a b s = 1 := by unfold ckBeats; rw [if_pos hw, if_neg hs]
          rw [hv, if_pos (by simp)]
          simp -implicitDefEqProofs (maxSteps := 2000000) (disch := omega) only [go_sem, reduceCtorEq, Nat.reduceAdd, Nat.reduceSub, Nat.reduceMul, Nat.reduceLT, Nat.reduceLeDiff, Nat.reduceEqDiff, Nat.reduceBEq, Int.reduceToNat, Int.reduceLT, Int.reduceLE, Int.reduceEq, Int.reduceNeg, Int.reduceAdd, Int.reduceSub, Int.reduceMul, ↓reduceIte, Int.reduceBEq, Int.reduceBNe, hc, hw, hsd]
      · have hv : ckBeats ts.length a b s = ckTwo ts.length a b := by unfold ckBeats; rw [if_neg hw]
        rw [hv, if_pos hw]
        generalize hq : ckTwo ts.length a b = q at hw ⊢
        simp -implicitDefEqProofs (maxSteps := 2000000) (disch := omega) only [go_sem, reduceCtorEq, Nat.reduceAdd, Nat.reduceSub, Nat.reduceMul, Nat.reduceLT, Nat.reduceLeDiff, Nat.reduceEqDiff, Nat.reduceBEq, Int.reduceToNat, Int.reduceLT, Int.reduceLE, Int.reduceEq, Int.reduceNeg, Int.reduceAdd, Int.reduceSub, Int.reduceMul, ↓reduceIte, Int.reduceBEq, Int.reduceBNe, hc, hq, hw]
    · rw [if_pos hc]
      simp -implicitDefEqProofs (maxSteps := 2000000) (disch := omega) only [go_sem, reduceCtorEq, Nat.reduceAdd, Nat.reduceSub, Nat.reduceMul, Nat.reduceLT, Nat.reduceLeDiff, Nat.reduceEqDiff, Nat.reduceBEq, Int.reduceToNat, Int.reduceLT, Int.reduceLE, Int.reduceEq, Int.reduceNeg, Int.reduceAdd, Int.reduceSub, Int.reduceMul, ↓reduceIte, Int.reduceBEq, Int.reduceBNe, hc]
def rWithin_s := spec3 tEar tI tRng fun e x w => if e.tones.length ≤ 4294967296 ∧ e.rds.length ≤ 4294967296 then some (.tup [.int .i64 (withinL e x w).1, .int .i64 (withinL e x w).2]) else none
theorem rWithin_ok : ∀ xs v, rWithin_s xs = some v → PureV Try.prog 43 xs v :=
  spec3_ok fun e x w v h => by have h := someIf h; rw [← h.2]; exact rWithin_p e x w h.1.1 h.1.2
def rHigher_s := spec3 tEar tI tI fun e a b => if e.tones.length ≤ 4294967296 ∧ e.rds.length ≤ 4294967296 then some (.tup [.int .i64 (higherL e a b).1, .int .i64 (higherL e a b).2]) else none
theorem rHigher_ok : ∀ xs v, rHigher_s xs = some v → PureV Try.prog 45 xs v :=
  spec3_ok fun e a b v h => by have h := someIf h; rw [← h.2]; exact rhigher_p e a b h.1.1 h.1.2
def rBeats_s := spec4 tEar tI tI tI fun e a b s => if e.tones.length ≤ 4294967296 ∧ e.rds.length ≤ 4294967296 then some (.tup [(beatsL e a b s).1.av, .int .i64 (beatsL e a b s).2]) else none
theorem rBeats_ok : ∀ xs v, rBeats_s xs = some v → PureV Try.prog 47 xs v :=
  spec4_ok fun e a b s v h => by have h := someIf h; rw [← h.2]; exact rBeats_p e a b s h.1.1 h.1.2
end Go.Proofs
set_option linter.unusedSimpArgs false
set_option linter.unusedVariables false
set_option maxRecDepth 100000
namespace Go.Proofs
open Go Go.Mu

attribute [go_sem] tRngs_dec
/-- One round of a loop. -/
theorem ARun.once {E : Env} (hE : EnvOK E) {ro : Option Nat} {c : Code} {k : List Item} {kp : Nat → Bool} {tm sl : List (Nat × AV)} {σ : List AObj} {Q : Post}
    (hO : todoOK E (.code c :: .inLoop c :: k) = true) (h : ev E ro 100000 (.code c :: .inLoop c :: k) ⟨kp, [], sl⟩ σ Q) : ARun E ro (.code (.loop c) :: k) ⟨kp, tm, sl⟩ σ Q :=
  ARun.anew (fr := ⟨kp, tm, sl⟩) (.loop (ev_sound hE hO h))
theorem same_step {α : Type} [DecidableEq α] {a b : List α} {i : Nat} (hl : a.length = b.length) (h : i < a.length) (ht : a.take i = b.take i) : (a.take (i + 1) = b.take (i + 1)) ↔ a[i] = b[i]'(by omega) := by
  have ta := List.take_succ_eq_append_getElem h
  have tb := List.take_succ_eq_append_getElem (l := b) (i := i) (by omega)
  rw [ta, tb, ht]
  simp only [List.append_cancel_left_eq, List.cons.injEq, and_true]
theorem sameInts_p (a b : List Int) (hl : a.length ≤ 4294967296) (hl2 : b.length ≤ 4294967296) : PureV Try.prog 28 [.list .no 1 (a.map (.int .i64)), .list .no 1 (b.map (.int .i64))] (.bool (decide (a = b))) := by
  refine PureV.of_ev (E := Try.E 31 Try.ord28 fs0) (Try.envOK 31 Try.ord28 fs0 fs0_ok) (.bool) Try.kp28 Try.func28 rfl (by kernel_rfl) (by simp [Try.E]) (Callable.of Try.func28 (by kernel_rfl) (by kernel_rfl)) (by kernel_rfl) ?_
  intro σ
  by_cases hlen : a.length = b.length
  · have hz : ((a.length : Int) = b.length) := by omega
    simp -implicitDefEqProofs (maxSteps := 2000000) (disch := omega) only [go_sem, reduceCtorEq, Nat.reduceAdd, Nat.reduceSub, Nat.reduceMul, Nat.reduceLT, Nat.reduceLeDiff, Nat.reduceEqDiff, Nat.reduceBEq, Int.reduceToNat, Int.reduceLT, Int.reduceLE, Int.reduceEq, Int.reduceNeg, Int.reduceAdd, Int.reduceSub, Int.reduceMul, ↓reduceIte, Int.reduceBEq, Int.reduceBNe]
    refine ARun.loopJ (Try.envOK 31 Try.ord28 fs0 fs0_ok) (α := Nat × Bool) (fun p => a.length - p.1) (fun p τ => τ = σ ∧ p.1 ≤ a.length ∧ p.2 = decide (a.take p.1 = b.take p.1)) (fun p => [(5, .bool p.2), (6, .int .i64 p.1)]) (0, true) (by kernel_rfl) (by simp [upd, ins, subF, lookA]) ⟨rfl, Nat.zero_le _, by simp⟩ ?_
    rintro ⟨i, c⟩ τ ⟨rfl, hi, hc⟩ ih
    simp only at hi hc ih
    cases c
    · simp -implicitDefEqProofs (maxSteps := 2000000) (disch := omega) only [go_sem, reduceCtorEq, Nat.reduceAdd, Nat.reduceSub, Nat.reduceMul, Nat.reduceLT, Nat.reduceLeDiff, Nat.reduceEqDiff, Nat.reduceBEq, Int.reduceToNat, Int.reduceLT, Int.reduceLE, Int.reduceEq, Int.reduceNeg, Int.reduceAdd, Int.reduceSub, Int.reduceMul, ↓reduceIte, Int.reduceBEq, Int.reduceBNe]
      have : ¬ a = b := fun e => by subst e; simp at hc
      simp [this]
    · have htk : a.take i = b.take i := by simpa using hc
      by_cases hlt : i < a.length
      · have hst := same_step hlen hlt htk
        have hia : idx (a.map (AV.int .i64)) (i : Int) = some (.int .i64 a[i]) := idx_nat hlt
        have hib : idx (b.map (AV.int .i64)) (i : Int) = some (.int .i64 (b[i]'(by omega))) := idx_nat (by omega)
        generalize a[i] = x at hst hia
        generalize b[i]'(by omega) = y at hst hib
        clear hc htk
        simp -implicitDefEqProofs (maxSteps := 2000000) (disch := omega) only [go_sem, reduceCtorEq, Nat.reduceAdd, Nat.reduceSub, Nat.reduceMul, Nat.reduceLT, Nat.reduceLeDiff, Nat.reduceEqDiff, Nat.reduceBEq, Int.reduceToNat, Int.reduceLT, Int.reduceLE, Int.reduceEq, Int.reduceNeg, Int.reduceAdd, Int.reduceSub, Int.reduceMul, ↓reduceIte, Int.reduceBEq, Int.reduceBNe, hia, hib]
        refine ⟨fun h => (ih (i + 1, true) _ (by simp only; omega) ⟨rfl, by simp only; omega, ?_⟩).castS rfl (by simp [upd, ins, subF, lookA]), fun h => (ih (i + 1, false) _ (by simp only; omega) ⟨rfl, by simp only; omega, ?_⟩).castS rfl (by simp [upd, ins, subF, lookA])⟩
        · simp [hst, h]
        · simp [hst, h]
      · have : i = a.length := by omega
        subst this
        simp -implicitDefEqProofs (maxSteps := 2000000) (disch := omega) only [go_sem, reduceCtorEq, Nat.reduceAdd, Nat.reduceSub, Nat.reduceMul, Nat.reduceLT, Nat.reduceLeDiff, Nat.reduceEqDiff, Nat.reduceBEq, Int.reduceToNat, Int.reduceLT, Int.reduceLE, Int.reduceEq, Int.reduceNeg, Int.reduceAdd, Int.reduceSub, Int.reduceMul, ↓reduceIte, Int.reduceBEq, Int.reduceBNe]
        have : a = b := by rwa [List.take_length, hlen, List.take_length] at htk
        simp [this]
  · have hz : ¬ ((a.length : Int) = b.length) := by omega
    have : ¬ a = b := fun e => hlen (by rw [e])
    simp -implicitDefEqProofs (maxSteps := 2000000) (disch := omega) only [go_sem, reduceCtorEq, Nat.reduceAdd, Nat.reduceSub, Nat.reduceMul, Nat.reduceLT, Nat.reduceLeDiff, Nat.reduceEqDiff, Nat.reduceBEq, Int.reduceToNat, Int.reduceLT, Int.reduceLE, Int.reduceEq, Int.reduceNeg, Int.reduceAdd, Int.reduceSub, Int.reduceMul, ↓reduceIte, Int.reduceBEq, Int.reduceBNe]
    refine ARun.once (Try.envOK 31 Try.ord28 fs0 fs0_ok) (by kernel_rfl) ?_
    simp -implicitDefEqProofs (maxSteps := 2000000) (disch := omega) only [go_sem, reduceCtorEq, Nat.reduceAdd, Nat.reduceSub, Nat.reduceMul, Nat.reduceLT, Nat.reduceLeDiff, Nat.reduceEqDiff, Nat.reduceBEq, Int.reduceToNat, Int.reduceLT, Int.reduceLE, Int.reduceEq, Int.reduceNeg, Int.reduceAdd, Int.reduceSub, Int.reduceMul, ↓reduceIte, Int.reduceBEq, Int.reduceBNe]
    simp [this]
def sameInts_s := spec2 tIs tIs fun a b => if a.length ≤ 4294967296 ∧ b.length ≤ 4294967296 then some (.bool (decide (a = b))) else none
theorem sameInts_ok : ∀ xs v, sameInts_s xs = some v → PureV Try.prog 28 xs v :=
  spec2_ok fun a b v h => by have h := someIf h; rw [← h.2]; exact sameInts_p a b h.1.1 h.1.2
theorem rd_ints (x y : Rd) : ([x.kind, x.a, x.b, x.sec, x.shown.lo, x.shown.hi] == [y.kind, y.a, y.b, y.sec, y.shown.lo, y.shown.hi]) = decide (x = y) := by
  rw [Bool.eq_iff_iff]
  obtain ⟨x1, x2, x3, x4, x5, x6⟩ := x
  obtain ⟨y1, y2, y3, y4, y5, y6⟩ := y
  simp
theorem sameEars_p (x y : Ear) (h1 : x.tones.length ≤ 4294967296) (h2 : x.rds.length ≤ 4294967296) (h3 : y.tones.length ≤ 4294967296) (h4 : y.rds.length ≤ 4294967296) : PureV Try.prog 27 [x.av, y.av] (.bool (decide (x = y))) := by
  refine PureV.of_ev (E := Try.E 50 Try.ord27 fs14) (Try.envOK 50 Try.ord27 fs14 fs14_ok) (.bool) Try.kp27 Try.func27 rfl (by kernel_rfl) (by simp [Try.E]) (Callable.of Try.func27 (by kernel_rfl) (by kernel_rfl)) (by kernel_rfl) ?_
  intro σ
  obtain ⟨s, ts, a⟩ := x
  obtain ⟨s', us, b⟩ := y
  simp only at h1 h2 h3 h4
  have heq : ((⟨s, ts, a⟩ : Ear) = ⟨s', us, b⟩) = (s = s' ∧ ts = us ∧ a = b) := by simp
  rw [show decide ((⟨s, ts, a⟩ : Ear) = ⟨s', us, b⟩) = decide (s = s' ∧ ts = us ∧ a = b) by simp]
  simp only [Ear.av]
  by_cases e1 : s = s'
  · by_cases e2 : ts = us
    · subst e1 e2
      by_cases hlen : a.length = b.length
      · have hz : ((a.length : Int) = b.length) := by omega
        simp -implicitDefEqProofs (maxSteps := 2000000) (disch := omega) only [go_sem, reduceCtorEq, Nat.reduceAdd, Nat.reduceSub, Nat.reduceMul, Nat.reduceLT, Nat.reduceLeDiff, Nat.reduceEqDiff, Nat.reduceBEq, Int.reduceToNat, Int.reduceLT, Int.reduceLE, Int.reduceEq, Int.reduceNeg, Int.reduceAdd, Int.reduceSub, Int.reduceMul, ↓reduceIte, Int.reduceBEq, Int.reduceBNe]
        refine ARun.loopJ (Try.envOK 50 Try.ord27 fs14 fs14_ok) (α := Nat × Bool) (fun p => a.length - p.1) (fun p τ => τ = σ ++ [.cells [.int .i64 s, .list .no 2 (ts.map Rng.av), .list .no 6 (a.map Rd.av)], .cells [.int .i64 s, .list .no 2 (ts.map Rng.av), .list .no 6 (b.map Rd.av)]] ∧ p.1 ≤ a.length ∧ p.2 = decide (a.take p.1 = b.take p.1)) (fun p => [(5, .bool p.2), (6, .int .i64 p.1)]) (0, true) (by kernel_rfl) (by simp [upd, ins, subF, lookA]) ⟨rfl, Nat.zero_le _, by simp⟩ ?_
        rintro ⟨i, c⟩ τ ⟨rfl, hi, hc⟩ ih
        simp only at hi hc ih
        cases c
        · simp -implicitDefEqProofs (maxSteps := 2000000) (disch := omega) only [go_sem, reduceCtorEq, Nat.reduceAdd, Nat.reduceSub, Nat.reduceMul, Nat.reduceLT, Nat.reduceLeDiff, Nat.reduceEqDiff, Nat.reduceBEq, Int.reduceToNat, Int.reduceLT, Int.reduceLE, Int.reduceEq, Int.reduceNeg, Int.reduceAdd, Int.reduceSub, Int.reduceMul, ↓reduceIte, Int.reduceBEq, Int.reduceBNe]
          have : ¬ a = b := fun e => by subst e; simp at hc
          simp [this]
        · have htk : a.take i = b.take i := by simpa using hc
          by_cases hlt : i < a.length
          · have hst := same_step hlen hlt htk
            have hia : idx (a.map Rd.av) (i : Int) = some a[i].av := idx_nat hlt
            have hib : idx (b.map Rd.av) (i : Int) = some (b[i]'(by omega)).av := idx_nat (by omega)
            generalize a[i] = x at hst hia
            generalize b[i]'(by omega) = y at hst hib
            have hrd := rd_ints x y
            clear hc htk
            simp -implicitDefEqProofs (maxSteps := 2000000) (disch := omega) only [go_sem, reduceCtorEq, Nat.reduceAdd, Nat.reduceSub, Nat.reduceMul, Nat.reduceLT, Nat.reduceLeDiff, Nat.reduceEqDiff, Nat.reduceBEq, Int.reduceToNat, Int.reduceLT, Int.reduceLE, Int.reduceEq, Int.reduceNeg, Int.reduceAdd, Int.reduceSub, Int.reduceMul, ↓reduceIte, Int.reduceBEq, Int.reduceBNe, hia, hib, Rd.av]
            have hx : ([x.kind, x.a, x.b, x.sec, x.shown.lo, x.shown.hi] = [y.kind, y.a, y.b, y.sec, y.shown.lo, y.shown.hi]) = (x = y) := by
              rw [Bool.eq_iff_iff] at hrd
              simpa using hrd
            rw [hx]
            refine ⟨fun h => (ih (i + 1, true) _ (by simp only; omega) ⟨by simp, by simp only; omega, ?_⟩).castS rfl (by simp [upd, ins, subF, lookA]), fun h => (ih (i + 1, false) _ (by simp only; omega) ⟨by simp, by simp only; omega, ?_⟩).castS rfl (by simp [upd, ins, subF, lookA])⟩
            · simp [hst, h]
            · simp [hst, h]
          · have : i = a.length := by omega
            subst this
            simp -implicitDefEqProofs (maxSteps := 2000000) (disch := omega) only [go_sem, reduceCtorEq, Nat.reduceAdd, Nat.reduceSub, Nat.reduceMul, Nat.reduceLT, Nat.reduceLeDiff, Nat.reduceEqDiff, Nat.reduceBEq, Int.reduceToNat, Int.reduceLT, Int.reduceLE, Int.reduceEq, Int.reduceNeg, Int.reduceAdd, Int.reduceSub, Int.reduceMul, ↓reduceIte, Int.reduceBEq, Int.reduceBNe]
            have : a = b := by rwa [List.take_length, hlen, List.take_length] at htk
            simp [this]
      · have hz : ¬ ((a.length : Int) = b.length) := by omega
        have : ¬ a = b := fun e => hlen (by rw [e])
        simp -implicitDefEqProofs (maxSteps := 2000000) (disch := omega) only [go_sem, reduceCtorEq, Nat.reduceAdd, Nat.reduceSub, Nat.reduceMul, Nat.reduceLT, Nat.reduceLeDiff, Nat.reduceEqDiff, Nat.reduceBEq, Int.reduceToNat, Int.reduceLT, Int.reduceLE, Int.reduceEq, Int.reduceNeg, Int.reduceAdd, Int.reduceSub, Int.reduceMul, ↓reduceIte, Int.reduceBEq, Int.reduceBNe]
        refine ARun.once (Try.envOK 50 Try.ord27 fs14 fs14_ok) (by kernel_rfl) ?_
        simp -implicitDefEqProofs (maxSteps := 2000000) (disch := omega) only [go_sem, reduceCtorEq, Nat.reduceAdd, Nat.reduceSub, Nat.reduceMul, Nat.reduceLT, Nat.reduceLeDiff, Nat.reduceEqDiff, Nat.reduceBEq, Int.reduceToNat, Int.reduceLT, Int.reduceLE, Int.reduceEq, Int.reduceNeg, Int.reduceAdd, Int.reduceSub, Int.reduceMul, ↓reduceIte, Int.reduceBEq, Int.reduceBNe]
        simp [this]
    · simp -implicitDefEqProofs (maxSteps := 2000000) (disch := omega) only [go_sem, reduceCtorEq, Nat.reduceAdd, Nat.reduceSub, Nat.reduceMul, Nat.reduceLT, Nat.reduceLeDiff, Nat.reduceEqDiff, Nat.reduceBEq, Int.reduceToNat, Int.reduceLT, Int.reduceLE, Int.reduceEq, Int.reduceNeg, Int.reduceAdd, Int.reduceSub, Int.reduceMul, ↓reduceIte, Int.reduceBEq, Int.reduceBNe, e2]
      refine ARun.once (Try.envOK 50 Try.ord27 fs14 fs14_ok) (by kernel_rfl) ?_
      simp -implicitDefEqProofs (maxSteps := 2000000) (disch := omega) only [go_sem, reduceCtorEq, Nat.reduceAdd, Nat.reduceSub, Nat.reduceMul, Nat.reduceLT, Nat.reduceLeDiff, Nat.reduceEqDiff, Nat.reduceBEq, Int.reduceToNat, Int.reduceLT, Int.reduceLE, Int.reduceEq, Int.reduceNeg, Int.reduceAdd, Int.reduceSub, Int.reduceMul, ↓reduceIte, Int.reduceBEq, Int.reduceBNe, e2]
  · simp -implicitDefEqProofs (maxSteps := 2000000) (disch := omega) only [go_sem, reduceCtorEq, Nat.reduceAdd, Nat.reduceSub, Nat.reduceMul, Nat.reduceLT, Nat.reduceLeDiff, Nat.reduceEqDiff, Nat.reduceBEq, Int.reduceToNat, Int.reduceLT, Int.reduceLE, Int.reduceEq, Int.reduceNeg, Int.reduceAdd, Int.reduceSub, Int.reduceMul, ↓reduceIte, Int.reduceBEq, Int.reduceBNe]
    refine ARun.once (Try.envOK 50 Try.ord27 fs14 fs14_ok) (by kernel_rfl) ?_
    simp -implicitDefEqProofs (maxSteps := 2000000) (disch := omega) only [go_sem, reduceCtorEq, Nat.reduceAdd, Nat.reduceSub, Nat.reduceMul, Nat.reduceLT, Nat.reduceLeDiff, Nat.reduceEqDiff, Nat.reduceBEq, Int.reduceToNat, Int.reduceLT, Int.reduceLE, Int.reduceEq, Int.reduceNeg, Int.reduceAdd, Int.reduceSub, Int.reduceMul, ↓reduceIte, Int.reduceBEq, Int.reduceBNe, e1]
def sameEars_s := spec2 tEar tEar fun x y => if x.tones.length ≤ 4294967296 ∧ x.rds.length ≤ 4294967296 ∧ y.tones.length ≤ 4294967296 ∧ y.rds.length ≤ 4294967296 then some (.bool (decide (x = y))) else none
theorem sameEars_ok : ∀ xs v, sameEars_s xs = some v → PureV Try.prog 27 xs v :=
  spec2_ok fun x y v h => by have h := someIf h; rw [← h.2]; exact sameEars_p x y h.1.1 h.1.2.1 h.1.2.2.1 h.1.2.2.2
end Go.Proofs
set_option linter.unusedSimpArgs false
set_option linter.unusedVariables false
set_option maxRecDepth 100000
namespace Go.Proofs
open Go Go.Mu

theorem loud_p (e : Ear) (h1 : e.tones.length ≤ 4294967296) (h2 : e.rds.length ≤ 4294967296) : PureV Try.prog 42 [e.av] (.bool (decide (20 < e.tones.length ∨ 20 < e.rds.length))) := by
  refine PureV.of_ev (E := Try.E 13 (fun _ => ([], [])) fs0) (Try.envOK 13 (fun _ => ([], [])) fs0 fs0_ok) (.bool) Try.kp42 Try.func42 rfl (by kernel_rfl) (by simp [Try.E]) (Callable.of Try.func42 (by kernel_rfl) (by kernel_rfl)) (by kernel_rfl) ?_
  intro σ
  simp only [Ear.av]
  simp -implicitDefEqProofs (maxSteps := 2000000) (disch := omega) only [go_sem, reduceCtorEq, Nat.reduceAdd, Nat.reduceSub, Nat.reduceMul, Nat.reduceLT, Nat.reduceLeDiff, Nat.reduceEqDiff, Nat.reduceBEq, Int.reduceToNat, Int.reduceLT, Int.reduceLE, Int.reduceEq, Int.reduceNeg, Int.reduceAdd, Int.reduceSub, Int.reduceMul, ↓reduceIte, Int.reduceBEq, Int.reduceBNe]
  refine ⟨fun h => ?_, fun h => ⟨fun h2 => ?_, fun h2 => ?_⟩⟩
  · simp; omega
  · simp; omega
  · simp; omega
def loud_s := spec1 tEar fun e => if e.tones.length ≤ 4294967296 ∧ e.rds.length ≤ 4294967296 then some (.bool (decide (20 < e.tones.length ∨ 20 < e.rds.length))) else none
theorem loud_ok : ∀ xs v, loud_s xs = some v → PureV Try.prog 42 xs v :=
  spec1_ok fun e v h => by have h := someIf h; rw [← h.2]; exact loud_p e h.1.1 h.1.2
def fs23 (f : FuncId) (xs : List AV) : Option AV := if f = 42 then loud_s xs else if f = 27 then sameEars_s xs else if f = 28 then sameInts_s xs else if f = 31 then within_m_s xs else if f = 46 then beats_m_s xs else if f = 43 then rWithin_s xs else if f = 45 then rHigher_s xs else if f = 47 then rBeats_s xs else fs22 f xs
theorem fs23_ok : ∀ f xs v, fs23 f xs = some v → PureV Try.prog f xs v := by
  intro f xs v h
  unfold fs23 at h
  split at h
  · rename_i e; subst e; exact loud_ok _ _ h
  split at h
  · rename_i e; subst e; exact sameEars_ok _ _ h
  split at h
  · rename_i e; subst e; exact sameInts_ok _ _ h
  split at h
  · rename_i e; subst e; exact within_m_ok _ _ h
  split at h
  · rename_i e; subst e; exact beats_m_ok _ _ h
  split at h
  · rename_i e; subst e; exact rWithin_ok _ _ h
  split at h
  · rename_i e; subst e; exact rHigher_ok _ _ h
  split at h
  · rename_i e; subst e; exact rBeats_ok _ _ h
  exact fs22_ok _ _ _ h
attribute [go_sem] fs23 loud_s sameEars_s sameInts_s within_m_s beats_m_s rWithin_s rHigher_s rBeats_s
theorem hget_pwa {σ l : List AObj} {r q : Nat} {s : Int} {o : AObj} (h : hget σ q = some o) (hne : q ≠ r) : hget (pw σ r s ++ l) q = some o := by
  rw [hget_app (by rw [length_pw]; exact hget_lt h)]
  unfold pw
  rw [hget_ne (fun e => hne e.symm)]; exact h
set_option maxHeartbeats 4000000 in
theorem meterSides_c (e : Ear) (a b sc : Int) (w : Rng) (nums : List Int) (h1 : e.tones.length ≤ 4294967296) (h2 : e.rds.length ≤ 4294967296) (hl : nums.length ≤ 4294967296) (σ : List AObj) :
    ACalls Try.prog 8 [e.av, .int .i64 a, .int .i64 b, .int .i64 sc, w.av, .list .no 1 (nums.map (.int .i64))] σ (fun v _ => v = .bool true) := by
  refine ACalls.of_ev (E := Try.E 240 Try.ord8 fs23) (Try.envOK 240 Try.ord8 fs23 fs23_ok) Try.kp8 Try.func8 rfl (by kernel_rfl) (by simp [Try.E]) (Callable.of Try.func8 (by kernel_rfl) (by kernel_rfl)) (by kernel_rfl) ?_
  obtain ⟨wl, wh⟩ := w
  simp only [Ear.av, Rng.av]
  by_cases hld : 20 < e.tones.length ∨ 20 < e.rds.length
  · have hd : decide (20 < e.tones.length ∨ 20 < e.rds.length) = true := decide_eq_true hld
    clear hld
    simp -implicitDefEqProofs (maxSteps := 2000000) (disch := omega) only [go_sem, reduceCtorEq, Nat.reduceAdd, Nat.reduceSub, Nat.reduceMul, Nat.reduceLT, Nat.reduceLeDiff, Nat.reduceEqDiff, Nat.reduceBEq, Int.reduceToNat, Int.reduceLT, Int.reduceLE, Int.reduceEq, Int.reduceNeg, Int.reduceAdd, Int.reduceSub, Int.reduceMul, ↓reduceIte, Int.reduceBEq, Int.reduceBNe, hd]
  have hd : decide (20 < e.tones.length ∨ 20 < e.rds.length) = false := decide_eq_false hld
  simp -implicitDefEqProofs (maxSteps := 2000000) (disch := omega) only [go_sem, reduceCtorEq, Nat.reduceAdd, Nat.reduceSub, Nat.reduceMul, Nat.reduceLT, Nat.reduceLeDiff, Nat.reduceEqDiff, Nat.reduceBEq, Int.reduceToNat, Int.reduceLT, Int.reduceLE, Int.reduceEq, Int.reduceNeg, Int.reduceAdd, Int.reduceSub, Int.reduceMul, ↓reduceIte, Int.reduceBEq, Int.reduceBNe, hd]
  clear hd hld
  have hE : hget (σ ++ [((.cells [.int .i64 e.slack, .list .no 2 (e.tones.map Rng.av), .list .no 6 (e.rds.map Rd.av)]) : AObj), (.cells [.int .i64 wl, .int .i64 wh])]) σ.length = some (.cells [.int .i64 e.slack, .list .no 2 (e.tones.map Rng.av), .list .no 6 (e.rds.map Rd.av)]) := by rw [hget_at0]; rfl
  have hW : hget (σ ++ [((.cells [.int .i64 e.slack, .list .no 2 (e.tones.map Rng.av), .list .no 6 (e.rds.map Rd.av)]) : AObj), (.cells [.int .i64 wl, .int .i64 wh])]) (σ.length + 1) = some (.cells [.int .i64 wl, .int .i64 wh]) := by rw [hget_at]; rfl
  generalize σ ++ [((.cells [.int .i64 e.slack, .list .no 2 (e.tones.map Rng.av), .list .no 6 (e.rds.map Rd.av)]) : AObj), (.cells [.int .i64 wl, .int .i64 wh])] = σ0 at hE hW ⊢
  generalize σ.length + 1 = qw at hW ⊢
  generalize σ.length = qe at hE ⊢
  have hlE := hget_lt hE
  have hlW := hget_lt hW
  refine newPot_c nums .no hl _ _ fun s0 junk0 => ?_
  have hp : PotAt (σ0 ++ (.cells [.int .u64 s0] :: junk0)) σ0.length := ⟨s0, by rw [hget_at0]; rfl⟩
  replace hE : hget (σ0 ++ (.cells [.int .u64 s0] :: junk0)) qe = some (.cells [.int .i64 e.slack, .list .no 2 (e.tones.map Rng.av), .list .no 6 (e.rds.map Rd.av)]) := by rw [hget_app hlE]; exact hE
  replace hW : hget (σ0 ++ (.cells [.int .u64 s0] :: junk0)) qw = some (.cells [.int .i64 wl, .int .i64 wh]) := by rw [hget_app hlW]; exact hW
  have hrE : qe ≠ σ0.length := by omega
  have hrW : qw ≠ σ0.length := by omega
  generalize σ0 ++ (.cells [.int .u64 s0] :: junk0) = σ1 at hp hE hW ⊢
  generalize σ0.length = r at hp hrE hrW ⊢
  clear hlE hlW
  simp -implicitDefEqProofs (maxSteps := 2000000) (disch := omega) only [go_sem, reduceCtorEq, Nat.reduceAdd, Nat.reduceSub, Nat.reduceMul, Nat.reduceLT, Nat.reduceLeDiff, Nat.reduceEqDiff, Nat.reduceBEq, Int.reduceToNat, Int.reduceLT, Int.reduceLE, Int.reduceEq, Int.reduceNeg, Int.reduceAdd, Int.reduceSub, Int.reduceMul, ↓reduceIte, Int.reduceBEq, Int.reduceBNe]
  refine earOf_c r 3 3 5 (by omega) (by omega) (by omega) _ hp _ fun s1 m T junk1 hM => ?_
  replace hp : PotAt (pw σ1 r s1 ++ junk1) r := (hp.pw s1).app
  replace hE : hget (pw σ1 r s1 ++ junk1) qe = some (.cells [.int .i64 e.slack, .list .no 2 (e.tones.map Rng.av), .list .no 6 (e.rds.map Rd.av)]) := hget_pwa hE hrE
  replace hW : hget (pw σ1 r s1 ++ junk1) qw = some (.cells [.int .i64 wl, .int .i64 wh]) := hget_pwa hW hrW
  generalize pw σ1 r s1 ++ junk1 = σ2 at hp hE hW ⊢
  clear junk1
  obtain ⟨sl, ts, rs⟩ := m
  have hT1 := hM.lo
  have hT3 := hM.hi
  have hbd := hM.bd
  have hlen := hM.len
  have hrs := hM.rn
  simp only at hlen hrs
  have hts3 : ts.length ≤ 4294967296 := by omega
  have hrs3 : rs.length ≤ 4294967296 := by omega
  clear hM
  simp only [Ear.av]
  have hEq : ∀ l, hget (σ2 ++ l) qe = some (.cells [.int .i64 e.slack, .list .no 2 (e.tones.map Rng.av), .list .no 6 (e.rds.map Rd.av)]) := fun l => by rw [hget_app (hget_lt hE)]; exact hE
  have hWq : ∀ l, hget (σ2 ++ l) qw = some (.cells [.int .i64 wl, .int .i64 wh]) := fun l => by rw [hget_app (hget_lt hW)]; exact hW
  have hEp : ∀ s l, hget (pw σ2 r s ++ l) qe = some (.cells [.int .i64 e.slack, .list .no 2 (e.tones.map Rng.av), .list .no 6 (e.rds.map Rd.av)]) := fun s l => hget_pwa hE hrE
  have hWp : ∀ s l, hget (pw σ2 r s ++ l) qw = some (.cells [.int .i64 wl, .int .i64 wh]) := fun s l => hget_pwa hW hrW
  have hr := hp.lt
  have hpp : ∀ s l, PotAt (pw σ2 r s ++ l) r := fun s l => (hp.pw s).app
  have hTn : (T.length : Int) - 1 < 9223372036854775807 := by omega
  have hx0 : idx (T.map (AV.int .i64)) 0 = some (.int .i64 (tg T 0)) := idx_tg (by omega) (by omega)
  have hxn : idx (T.map (AV.int .i64)) ((T.length : Int) - 1) = some (.int .i64 (tg T ((T.length : Int) - 1))) := idx_tg (by omega) (by omega)
  have hb0 : 50 ≤ tg T 0 ∧ tg T 0 ≤ 50030 := by
    have := hbd _ (List.getElem_mem (show 0 < T.length by omega))
    rwa [← tgE] at this
  have hbn : 50 ≤ tg T ((T.length : Int) - 1) ∧ tg T ((T.length : Int) - 1) ≤ 50030 := by
    have := hbd _ (List.getElem_mem (show T.length - 1 < T.length by omega))
    rw [← tgE] at this
    rwa [show (T.length : Int) - 1 = ((T.length - 1 : Nat) : Int) by omega]
  clear hbd
  generalize tg T 0 = t0 at hx0 hb0
  generalize tg T ((T.length : Int) - 1) = tn at hxn hbn
  simp -implicitDefEqProofs (maxSteps := 2000000) (disch := omega) only [go_sem, reduceCtorEq, Nat.reduceAdd, Nat.reduceSub, Nat.reduceMul, Nat.reduceLT, Nat.reduceLeDiff, Nat.reduceEqDiff, Nat.reduceBEq, Int.reduceToNat, Int.reduceLT, Int.reduceLE, Int.reduceEq, Int.reduceNeg, Int.reduceAdd, Int.reduceSub, Int.reduceMul, ↓reduceIte, Int.reduceBEq, Int.reduceBNe, length_pw, hget_pw0, hget_pw, hset_pw0, hset_pw, hEq, hWq, hx0, hxn]
  refine upto_c r _ hTn _ hp.app _ fun s2 a1 n1 n2 => ?_
  clear n1 n2
  rw [pw_app hr]
  simp -implicitDefEqProofs (maxSteps := 2000000) (disch := omega) only [go_sem, reduceCtorEq, Nat.reduceAdd, Nat.reduceSub, Nat.reduceMul, Nat.reduceLT, Nat.reduceLeDiff, Nat.reduceEqDiff, Nat.reduceBEq, Int.reduceToNat, Int.reduceLT, Int.reduceLE, Int.reduceEq, Int.reduceNeg, Int.reduceAdd, Int.reduceSub, Int.reduceMul, ↓reduceIte, Int.reduceBEq, Int.reduceBNe, length_pw, hget_pw0, hget_pw, hset_pw0, hset_pw, hEq, hWq, hEp, hWp, hx0, hxn]
  refine upto_c r _ hTn _ (hpp _ _) _ fun s3 a2 n1 n2 => ?_
  clear n1 n2
  rw [pw_pwa hr]
  simp -implicitDefEqProofs (maxSteps := 2000000) (disch := omega) only [go_sem, reduceCtorEq, Nat.reduceAdd, Nat.reduceSub, Nat.reduceMul, Nat.reduceLT, Nat.reduceLeDiff, Nat.reduceEqDiff, Nat.reduceBEq, Int.reduceToNat, Int.reduceLT, Int.reduceLE, Int.reduceEq, Int.reduceNeg, Int.reduceAdd, Int.reduceSub, Int.reduceMul, ↓reduceIte, Int.reduceBEq, Int.reduceBNe, length_pw, hget_pw0, hget_pw, hset_pw0, hset_pw, hEq, hWq, hEp, hWp, hx0, hxn]
  refine upto_c r _ hTn _ (hpp _ _) _ fun s4 b1 n1 n2 => ?_
  clear n1 n2
  rw [pw_pwa hr]
  simp -implicitDefEqProofs (maxSteps := 2000000) (disch := omega) only [go_sem, reduceCtorEq, Nat.reduceAdd, Nat.reduceSub, Nat.reduceMul, Nat.reduceLT, Nat.reduceLeDiff, Nat.reduceEqDiff, Nat.reduceBEq, Int.reduceToNat, Int.reduceLT, Int.reduceLE, Int.reduceEq, Int.reduceNeg, Int.reduceAdd, Int.reduceSub, Int.reduceMul, ↓reduceIte, Int.reduceBEq, Int.reduceBNe, length_pw, hget_pw0, hget_pw, hset_pw0, hset_pw, hEq, hWq, hEp, hWp, hx0, hxn]
  refine upto_c r _ hTn _ (hpp _ _) _ fun s5 b2 n1 n2 => ?_
  clear n1 n2
  rw [pw_pwa hr]
  simp -implicitDefEqProofs (maxSteps := 2000000) (disch := omega) only [go_sem, reduceCtorEq, Nat.reduceAdd, Nat.reduceSub, Nat.reduceMul, Nat.reduceLT, Nat.reduceLeDiff, Nat.reduceEqDiff, Nat.reduceBEq, Int.reduceToNat, Int.reduceLT, Int.reduceLE, Int.reduceEq, Int.reduceNeg, Int.reduceAdd, Int.reduceSub, Int.reduceMul, ↓reduceIte, Int.reduceBEq, Int.reduceBNe, length_pw, hget_pw0, hget_pw, hset_pw0, hset_pw, hEq, hWq, hEp, hWp, hx0, hxn]
  refine within_c r 1 20 (by omega) (by omega) _ (hpp _ _) _ fun s6 c1 n1 n2 => ?_
  clear n1 n2
  rw [pw_pwa hr]
  simp -implicitDefEqProofs (maxSteps := 2000000) (disch := omega) only [go_sem, reduceCtorEq, Nat.reduceAdd, Nat.reduceSub, Nat.reduceMul, Nat.reduceLT, Nat.reduceLeDiff, Nat.reduceEqDiff, Nat.reduceBEq, Int.reduceToNat, Int.reduceLT, Int.reduceLE, Int.reduceEq, Int.reduceNeg, Int.reduceAdd, Int.reduceSub, Int.reduceMul, ↓reduceIte, Int.reduceBEq, Int.reduceBNe, length_pw, hget_pw0, hget_pw, hset_pw0, hset_pw, hEq, hWq, hEp, hWp, hx0, hxn]
  refine within_c r 1 20 (by omega) (by omega) _ (hpp _ _) _ fun s7 c2 n1 n2 => ?_
  clear n1 n2
  rw [pw_pwa hr]
  simp -implicitDefEqProofs (maxSteps := 2000000) (disch := omega) only [go_sem, reduceCtorEq, Nat.reduceAdd, Nat.reduceSub, Nat.reduceMul, Nat.reduceLT, Nat.reduceLeDiff, Nat.reduceEqDiff, Nat.reduceBEq, Int.reduceToNat, Int.reduceLT, Int.reduceLE, Int.reduceEq, Int.reduceNeg, Int.reduceAdd, Int.reduceSub, Int.reduceMul, ↓reduceIte, Int.reduceBEq, Int.reduceBNe, length_pw, hget_pw0, hget_pw, hset_pw0, hset_pw, hEq, hWq, hEp, hWp, hx0, hxn]
  refine near_c r t0 1 100000 5 (by omega) (by omega) _ (hpp _ _) _ fun s8 p1 p2 n1 n2 n3 n4 n5 n6 junk8 => ?_
  clear n1 n2 n3 n4 n5 n6
  rw [pw_pwa hr, List.append_assoc]
  simp -implicitDefEqProofs (maxSteps := 2000000) (disch := omega) only [go_sem, reduceCtorEq, Nat.reduceAdd, Nat.reduceSub, Nat.reduceMul, Nat.reduceLT, Nat.reduceLeDiff, Nat.reduceEqDiff, Nat.reduceBEq, Int.reduceToNat, Int.reduceLT, Int.reduceLE, Int.reduceEq, Int.reduceNeg, Int.reduceAdd, Int.reduceSub, Int.reduceMul, ↓reduceIte, Int.reduceBEq, Int.reduceBNe, length_pw, hget_pw0, hget_pw, hset_pw0, hset_pw, hEq, hWq, hEp, hWp, hx0, hxn]
  refine upto_c r 4 (by omega) _ (hpp _ _) _ fun s9 d d0 d4 => ?_
  rw [pw_pwa hr]
  have hdw : IntKind.i64.wrap (tn + d) = tn + d := wrap64 (by omega) (by omega)
  simp -implicitDefEqProofs (maxSteps := 2000000) (disch := omega) only [go_sem, reduceCtorEq, Nat.reduceAdd, Nat.reduceSub, Nat.reduceMul, Nat.reduceLT, Nat.reduceLeDiff, Nat.reduceEqDiff, Nat.reduceBEq, Int.reduceToNat, Int.reduceLT, Int.reduceLE, Int.reduceEq, Int.reduceNeg, Int.reduceAdd, Int.reduceSub, Int.reduceMul, ↓reduceIte, Int.reduceBEq, Int.reduceBNe, length_pw, hget_pw0, hget_pw, hset_pw0, hset_pw, hEq, hWq, hEp, hWp, hx0, hxn, hdw, Rng.av]
  refine near_c r (tn + d) 1 100000 3 (by omega) (by omega) _ (hpp _ _) _ fun s10 q1 q2 n1 n2 n3 n4 n5 n6 junk10 => ?_
  clear n1 n2 n3 n4 n5 n6 d0 d4
  rw [pw_pwa hr]
  simp -implicitDefEqProofs (maxSteps := 2000000) (disch := omega) only [go_sem, reduceCtorEq, Nat.reduceAdd, Nat.reduceSub, Nat.reduceMul, Nat.reduceLT, Nat.reduceLeDiff, Nat.reduceEqDiff, Nat.reduceBEq, Int.reduceToNat, Int.reduceLT, Int.reduceLE, Int.reduceEq, Int.reduceNeg, Int.reduceAdd, Int.reduceSub, Int.reduceMul, ↓reduceIte, Int.reduceBEq, Int.reduceBNe, length_pw, hget_pw0, hget_pw, hset_pw0, hset_pw, hEq, hWq, hEp, hWp, hx0, hxn, hdw, Rng.av]
  have hEL : ∀ i : Nat, i < 4 → ∃ x : Ear, idx [AV.agg [.int .i64 e.slack, .list .no 2 (e.tones.map Rng.av), .list .no 6 (e.rds.map Rd.av)], AV.agg [.int .i64 sl, .list .no 2 (ts.map Rng.av), .list .no 6 (rs.map Rd.av)], AV.agg [.int .i64 sl, .list .no 2 (ts.map Rng.av), .list .no 6 (rs.map Rd.av)], AV.agg [.int .i64 sl, .list .no 2 (ts.map Rng.av), .list .no 6 (rs.map Rd.av)]] (i : Int) = some x.av ∧ x.tones.length ≤ 4294967296 ∧ x.rds.length ≤ 4294967296 := fun i hi => by
    rcases (by omega : i = 0 ∨ i = 1 ∨ i = 2 ∨ i = 3) with rfl | rfl | rfl | rfl
    · exact ⟨e, rfl, h1, h2⟩
    · exact ⟨⟨sl, ts, rs⟩, rfl, hts3, hrs3⟩
    · exact ⟨⟨sl, ts, rs⟩, rfl, hts3, hrs3⟩
    · exact ⟨⟨sl, ts, rs⟩, rfl, hts3, hrs3⟩
  have hIL : ∀ (x1 x2 x3 x4 : Int) (i : Nat), i < 4 → ∃ x : Int, idx [.int .i64 x1, .int .i64 x2, .int .i64 x3, .int .i64 x4] (i : Int) = some (.int .i64 x) := fun x1 x2 x3 x4 i hi => by
    rcases (by omega : i = 0 ∨ i = 1 ∨ i = 2 ∨ i = 3) with rfl | rfl | rfl | rfl <;> exact ⟨_, rfl⟩
  have hWL : ∀ i : Nat, i < 4 → ∃ x : Rng, idx [.agg [.int .i64 wl, .int .i64 wh], .agg [.int .i64 p1, .int .i64 p2], .agg [.int .i64 q1, .int .i64 q2], .agg [.int .i64 wl, .int .i64 wh]] (i : Int) = some x.av := fun i hi => by
    rcases (by omega : i = 0 ∨ i = 1 ∨ i = 2 ∨ i = 3) with rfl | rfl | rfl | rfl
    · exact ⟨⟨wl, wh⟩, rfl⟩
    · exact ⟨⟨p1, p2⟩, rfl⟩
    · exact ⟨⟨q1, q2⟩, rfl⟩
    · exact ⟨⟨wl, wh⟩, rfl⟩
  have hAL := hIL a a1 a2 a
  have hBL := hIL b b1 b2 b
  have hCL := hIL sc c1 c2 sc
  clear hIL
  generalize hE4 : [AV.agg [.int .i64 e.slack, .list .no 2 (e.tones.map Rng.av), .list .no 6 (e.rds.map Rd.av)], AV.agg [.int .i64 sl, .list .no 2 (ts.map Rng.av), .list .no 6 (rs.map Rd.av)], AV.agg [.int .i64 sl, .list .no 2 (ts.map Rng.av), .list .no 6 (rs.map Rd.av)], AV.agg [.int .i64 sl, .list .no 2 (ts.map Rng.av), .list .no 6 (rs.map Rd.av)]] = E4 at hEL ⊢
  have hl0 : E4.length = 4 := by rw [← hE4]; rfl
  generalize [AV.int .i64 a, .int .i64 a1, .int .i64 a2, .int .i64 a] = A4 at hAL ⊢
  generalize [AV.int .i64 b, .int .i64 b1, .int .i64 b2, .int .i64 b] = B4 at hBL ⊢
  generalize [AV.int .i64 sc, .int .i64 c1, .int .i64 c2, .int .i64 sc] = C4 at hCL ⊢
  generalize [AV.agg [.int .i64 wl, .int .i64 wh], .agg [.int .i64 p1, .int .i64 p2], .agg [.int .i64 q1, .int .i64 q2], .agg [.int .i64 wl, .int .i64 wh]] = W4 at hWL ⊢
  clear hE4 hEq hWq hEp hWp hpp hE hW hx0 hxn hdw
  generalize (pw σ2 r s10 ++ .cells [.int .i64 sl, .list .no 2 (ts.map Rng.av), .list .no 6 (rs.map Rd.av)] :: (junk8 ++ junk10)) = τ
  refine ARun.forS (Try.envOK 240 Try.ord8 fs23 fs23_ok) 4 (fun _ => True) (fun i => [(22, .int .i64 i)]) (fun _ j => τ ++ j) [] (by kernel_rfl) (by simp) (by simp [upd, ins, subF, lookA]) trivial ?_ ?_
  · intro i j hi _ ih
    obtain ⟨x, hx, hx1, hx2⟩ := hEL i hi
    obtain ⟨ai, ha⟩ := hAL i hi
    obtain ⟨bi, hb⟩ := hBL i hi
    obtain ⟨ci, hc⟩ := hCL i hi
    obtain ⟨w, hw⟩ := hWL i hi
    obtain ⟨wl, wh⟩ := w
    obtain ⟨xs, xt, xr⟩ := x
    simp only at hx1 hx2
    clear hEL hAL hBL hCL hWL hp hr hTn hb0 hbn hT1 hT3 hlen hrs hts3 hrs3 h1 h2 hl hrE hrW
    simp -implicitDefEqProofs (maxSteps := 2000000) (disch := omega) only [go_sem, reduceCtorEq, Nat.reduceAdd, Nat.reduceSub, Nat.reduceMul, Nat.reduceLT, Nat.reduceLeDiff, Nat.reduceEqDiff, Nat.reduceBEq, Int.reduceToNat, Int.reduceLT, Int.reduceLE, Int.reduceEq, Int.reduceNeg, Int.reduceAdd, Int.reduceSub, Int.reduceMul, ↓reduceIte, Int.reduceBEq, Int.reduceBNe, hl0, hx, ha, hb, hc, hw, Ear.av, Rng.av]
    exact (ih trivial (j ++ [_, _, _])).castS rfl (by simp [upd, ins, subF, lookA])
  · intro j _
    simp -implicitDefEqProofs (maxSteps := 2000000) (disch := omega) only [go_sem, reduceCtorEq, Nat.reduceAdd, Nat.reduceSub, Nat.reduceMul, Nat.reduceLT, Nat.reduceLeDiff, Nat.reduceEqDiff, Nat.reduceBEq, Int.reduceToNat, Int.reduceLT, Int.reduceLE, Int.reduceEq, Int.reduceNeg, Int.reduceAdd, Int.reduceSub, Int.reduceMul, ↓reduceIte, Int.reduceBEq, Int.reduceBNe, hl0]
end Go.Proofs
