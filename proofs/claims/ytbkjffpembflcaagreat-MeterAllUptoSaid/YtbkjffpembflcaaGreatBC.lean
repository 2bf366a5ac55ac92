/- Texts of a proof: lemmas. -/
import Derived.Test.YtbkjffpembflcaaGreatBA
import Derived.Test.YtbkjffpembflcaaGreatAJ
import Derived.Test.YtbkjffpembflcaaGreatAN
import Derived.Test.YtbkjffpembflcaaGreatA19
set_option linter.unusedSimpArgs false
set_option linter.unusedVariables false
set_option maxRecDepth 100000
namespace Go.Proofs
open Go Go.Mu

/-- A list of numbers, as an element. -/
def isv (t : List Int) : AV := .list .no 1 (t.map (AV.int .i64))
/-- A list of lists of numbers. -/
def tss (L : List (List Int)) : AV := .list .no 1 (L.map isv)
def decN : AV → Option (List Int)
  | .list .no 1 xs => decs decI xs
  | _ => none
theorem decN_inv (a : AV) (x : List Int) (h : decN a = some x) : a = isv x := by
  unfold decN at h; split at h
  · rw [decs_inv decI_inv h]; rfl
  · cases h
theorem decN_isv (x : List Int) : decN (isv x) = some x := decs_ints
def tIss : Ty (List (List Int)) := ⟨decL 1 decN, tss, decL_inv' decN_inv⟩
theorem tIss_dec {a : AV} : tIss.dec a = decL 1 decN a := rfl
theorem decL_iss {t : Tok} {l : List (List Int)} : decL 1 decN (.list t 1 (l.map isv)) = some l := decL_self decN_isv
theorem plain_ints (t : List Int) : Plain (.list .no 1 (t.map (AV.int .i64))) := by
  intro n
  refine .list _ _ _ (fun id e => by cases e) fun i j hi hj => ?_
  simp [AV.cells] at hj ⊢
  exact .int _ _
theorem isv_plain (t : List Int) : Plain (isv t) := plain_ints t
theorem tss_plain (l : List (List Int)) : Plain (tss l) := by
  intro n
  refine .list _ _ _ (fun id e => by cases e) fun i j hi hj => ?_
  simp only [List.getElem_map, isv, AV.cells, List.length_singleton] at hj ⊢
  have : j = 0 := by omega
  subst this
  exact plain_ints _ n
attribute [go_sem] tIss_dec decL_iss
theorem padT_len' {t : List Int} (h : t.length ≤ 3) : (padT t).length = 3 := by simp [padT]; omega
theorem padT_take' {t : List Int} : (padT t).take t.length = t := by simp [padT]
theorem padT_set' {t : List Int} (h : t.length < 3) (v : Int) : setI (padT t) t.length v = padT (t ++ [v]) := by
  simp only [setI, padT, Int.toNat_natCast, List.length_append, List.length_singleton]
  rw [List.set_append_right _ _ (by omega), Nat.sub_self]
  have e : 3 - t.length = (3 - (t.length + 1)) + 1 := by omega
  rw [e, List.replicate_succ]
  simp
def rallL (e : Ear) (t : List Int) : List (List Int) := (allT e (e.tones.length - t.length) (padT t) t.length).map (List.take e.tones.length)
def rfits_s := spec2 tEar tIs fun e T => if ck e = 0 ∧ T.length = e.tones.length ∧ small T then some (.bool (e.rds.all fun r => isR r e.slack T)) else none
theorem rfits_ok : ∀ xs v, rfits_s xs = some v → PureV Tryz.prog 92 xs v :=
  spec2_ok fun e T v h => by have h := someIf h; rw [← h.2]; exact rfits_p e T h.1.1 h.1.2.1 h.1.2.2
def fs107 (f : FuncId) (xs : List AV) : Option AV := if f = 92 then rfits_s xs else fs106 f xs
theorem fs107_ok : ∀ f xs v, fs107 f xs = some v → PureV Tryz.prog f xs v := by
  intro f xs v h
  unfold fs107 at h
  split at h
  · rename_i e; subst e; exact rfits_ok _ _ h
  exact fs106_ok _ _ _ h
attribute [go_sem] fs107 rfits_s
theorem isv_flat (t : List Int) : (isv t).flat = true := rfl
theorem isv_cells (t : List Int) : (isv t).cells = [isv t] := rfl
theorem getD_tone {e : Ear} {a : Nat} (h : a < e.tones.length) : e.tones.getD a default = e.tones[a] := by simp [List.getD, List.getElem?_eq_getElem h]
theorem idxR {l : List Rng} {a : Nat} (h : a < l.length) : idx (l.map Rng.av) (a : Int) = some l[a].av := by rw [idx_nat h]
set_option maxHeartbeats 4000000 in
theorem rall_p (e : Ear) (hc : ck e = 0) : ∀ (d : Nat) (t : List Int), t.length + d = e.tones.length → small t → PureV Tryz.prog 51 [e.av, .list .no 1 (t.map (.int .i64))] (tss (rallL e t)) := by
  have he := okE_of_ck hc
  have hlen := he.len
  intro d
  induction d with
  | zero =>
    intro t hl hs
    refine PureV.of_ev (E := Tryz.E 44 Tryz.ord51 fs107) (Tryz.envOK 44 Tryz.ord51 fs107 fs107_ok) (tss_plain _) Tryz.kp51 Tryz.func51 rfl (by kernel_rfl) (by simp [Tryz.E]) (Callable.of Tryz.func51 (by kernel_rfl) (by kernel_rfl)) (by kernel_rfl) ?_
    intro σ
    have hL : rallL e t = if (e.rds.all fun r => isR r e.slack t) then [t] else [] := by
      unfold rallL
      have e0 : e.tones.length - t.length = 0 := by omega
      rw [e0]
      simp only [allT, isR_pad]
      split
      · simp only [List.map_cons, List.map_nil]; rw [show e.tones.length = t.length by omega, padT_take']
      · rfl
    rw [hL]
    simp only [Ear.av]
    have hl' : t.length = e.tones.length := by omega
    have hc' : ck ⟨e.slack, e.tones, e.rds⟩ = 0 := hc
    cases hb : (e.rds.all fun r => isR r e.slack t)
    · simp -implicitDefEqProofs (maxSteps := 2000000) (disch := omega) only [go_sem, reduceCtorEq, Nat.reduceAdd, Nat.reduceSub, Nat.reduceMul, Nat.reduceLT, Nat.reduceLeDiff, Nat.reduceEqDiff, Nat.reduceBEq, Int.reduceToNat, Int.reduceLT, Int.reduceLE, Int.reduceEq, Int.reduceNeg, Int.reduceAdd, Int.reduceSub, Int.reduceMul, ↓reduceIte, Int.reduceBEq, Int.reduceBNe, hc', hs, hb, hl', tss, List.map_nil]
    · simp -implicitDefEqProofs (maxSteps := 2000000) (disch := omega) only [go_sem, reduceCtorEq, Nat.reduceAdd, Nat.reduceSub, Nat.reduceMul, Nat.reduceLT, Nat.reduceLeDiff, Nat.reduceEqDiff, Nat.reduceBEq, Int.reduceToNat, Int.reduceLT, Int.reduceLE, Int.reduceEq, Int.reduceNeg, Int.reduceAdd, Int.reduceSub, Int.reduceMul, ↓reduceIte, Int.reduceBEq, Int.reduceBNe, hc', hs, hb, hl', tss, isv]
  | succ d ih =>
    intro t hl hs
    refine PureV.of_ev (E := Tryz.E 44 Tryz.ord51 fs107) (Tryz.envOK 44 Tryz.ord51 fs107 fs107_ok) (tss_plain _) Tryz.kp51 Tryz.func51 rfl (by kernel_rfl) (by simp [Tryz.E]) (Callable.of Tryz.func51 (by kernel_rfl) (by kernel_rfl)) (by kernel_rfl) ?_
    intro σ
    have hlt : t.length < e.tones.length := by omega
    have hx := he.tone _ (List.getElem_mem hlt)
    have hxi := idxR hlt
    have hT : ∀ v, 0 ≤ v ∧ v ≤ 1000000 → small (t ++ [v]) := fun v hv x hx => by
      rcases List.mem_append.1 hx with h | h
      · exact hs x h
      · simp at h; subst h; exact hv
    have hL : rallL e t = (List.range (e.tones[t.length].hi - e.tones[t.length].lo + 1).toNat).flatMap fun (k : Nat) => rallL e (t ++ [e.tones[t.length].lo + k]) := by
      unfold rallL
      rw [show e.tones.length - t.length = d + 1 by omega]
      simp only [allT, getD_tone hlt, List.map_flatMap]
      congr 1; funext k
      rw [padT_set' (by omega), List.length_append, List.length_singleton, show e.tones.length - (t.length + 1) = d by omega]
    rw [hL]
    have hle : ∀ v, (rallL e (t ++ [v])).length ≤ 441 := fun v => by
      unfold rallL
      rw [List.length_map]
      refine Nat.le_trans (allT_len e he _ _ _ (by simp; omega)) (Nat.le_trans (Nat.pow_le_pow_right (by omega) (show _ ≤ 2 by simp; omega)) (by decide))
    generalize e.tones[t.length] = x at hx hxi
    obtain ⟨lo, hi⟩ := x
    simp only at hx
    simp only [Ear.av]
    simp -implicitDefEqProofs (maxSteps := 2000000) (disch := omega) only [go_sem, reduceCtorEq, Nat.reduceAdd, Nat.reduceSub, Nat.reduceMul, Nat.reduceLT, Nat.reduceLeDiff, Nat.reduceEqDiff, Nat.reduceBEq, Int.reduceToNat, Int.reduceLT, Int.reduceLE, Int.reduceEq, Int.reduceNeg, Int.reduceAdd, Int.reduceSub, Int.reduceMul, ↓reduceIte, Int.reduceBEq, Int.reduceBNe, hxi, Rng.av]
    refine ARun.ghost 5 1 (sz0 := 0) rfl (by simp [lookA]) ?_
    simp only [ins, ↓reduceIte, List.append_assoc, List.cons_append, List.nil_append, List.length_append, List.length_cons, List.length_nil, Nat.zero_add, Nat.reduceEqDiff, Nat.reduceAdd]
    refine ARun.forS (Tryz.envOK 44 Tryz.ord51 fs107 fs107_ok) (hi - lo + 1).toNat (fun _ => True) (fun i => [(5, .list (.own (σ.length + 2)) 1 (((List.range i).flatMap fun (k : Nat) => rallL e (t ++ [lo + k])).map isv)), (7, .int .i64 (lo + i))]) (fun i j => σ ++ (.cells e.cells :: .cells [.int .i64 lo, .int .i64 hi] :: .tail ((List.range i).flatMap fun (k : Nat) => rallL e (t ++ [lo + k])).length 1 :: j)) [] (by kernel_rfl) (by simp [Ear.cells]) (by simp [upd, ins, subF, lookA]) trivial ?_ ?_
    · intro i j hi' _ ih2
      have hbl : ((List.range i).flatMap fun (k : Nat) => rallL e (t ++ [lo + k])).length ≤ i * 441 := flatMap_len _ fun k _ => hle _
      rw [flatMap_succ] at ih2
      have hle1 := hle (lo + i)
      have ih' := ih (t ++ [lo + i]) (by simp; omega) (hT _ (by omega))
      generalize ((List.range i).flatMap fun (k : Nat) => rallL e (t ++ [lo + k])) = B at hbl ih2 ⊢
      generalize rallL e (t ++ [lo + i]) = C at hle1 ih2 ih'
      simp -implicitDefEqProofs (maxSteps := 2000000) (disch := omega) only [go_sem, reduceCtorEq, Nat.reduceAdd, Nat.reduceSub, Nat.reduceMul, Nat.reduceLT, Nat.reduceLeDiff, Nat.reduceEqDiff, Nat.reduceBEq, Int.reduceToNat, Int.reduceLT, Int.reduceLE, Int.reduceEq, Int.reduceNeg, Int.reduceAdd, Int.reduceSub, Int.reduceMul, ↓reduceIte, Int.reduceBEq, Int.reduceBNe, Ear.cells]
      refine PureV.weaken (l' := [e.av, .list .no 1 ((t ++ [lo + (i : Int)]).map (AV.int .i64))]) ?_ ih' _ _ ?_
      · simp [wkL, wk, wk1, wk0, Ear.av]
      · simp -implicitDefEqProofs (maxSteps := 2000000) (disch := omega) only [go_sem, reduceCtorEq, Nat.reduceAdd, Nat.reduceSub, Nat.reduceMul, Nat.reduceLT, Nat.reduceLeDiff, Nat.reduceEqDiff, Nat.reduceBEq, Int.reduceToNat, Int.reduceLT, Int.reduceLE, Int.reduceEq, Int.reduceNeg, Int.reduceAdd, Int.reduceSub, Int.reduceMul, ↓reduceIte, Int.reduceBEq, Int.reduceBNe, tss]
        exact (ih2 trivial (j ++ [.tail (t.length + 1) 1])).castS (by simp [Ear.cells]) (by simp [upd, ins, subF, lookA, Int.add_assoc])
    · intro j _
      have hbl : ((List.range (hi - lo + 1).toNat).flatMap fun (k : Nat) => rallL e (t ++ [lo + k])).length ≤ (hi - lo + 1).toNat * 441 := flatMap_len _ fun k _ => hle _
      generalize ((List.range (hi - lo + 1).toNat).flatMap fun (k : Nat) => rallL e (t ++ [lo + k])) = B at hbl ⊢
      simp -implicitDefEqProofs (maxSteps := 2000000) (disch := omega) only [go_sem, reduceCtorEq, Nat.reduceAdd, Nat.reduceSub, Nat.reduceMul, Nat.reduceLT, Nat.reduceLeDiff, Nat.reduceEqDiff, Nat.reduceBEq, Int.reduceToNat, Int.reduceLT, Int.reduceLE, Int.reduceEq, Int.reduceNeg, Int.reduceAdd, Int.reduceSub, Int.reduceMul, ↓reduceIte, Int.reduceBEq, Int.reduceBNe, Ear.cells, tss]
end Go.Proofs
set_option linter.unusedSimpArgs false
set_option linter.unusedVariables false
set_option maxRecDepth 100000
namespace Go.Proofs
open Go Go.Mu

/-- The truths as lists, one number for each tongue. -/
def truthsR (e : Ear) : List (List Int) := (truthsL e).map (List.take e.tones.length)
theorem rallL_nil (e : Ear) : rallL e [] = truthsR e := rfl
theorem tg_take {t : List Int} {m : Nat} {i : Int} (h : i < m) (h0 : 0 ≤ i) : tg (t.take m) i = tg t i := by
  simp only [tg, List.getD]
  rw [List.getElem?_take_of_lt (by omega)]
theorem truthsR_len {e : Ear} (he : OkE e) : (truthsR e).length ≤ 9261 := by unfold truthsR; rw [List.length_map]; exact truthsL_len he
theorem truthsR_ok {e : Ear} (he : OkE e) : ∀ t ∈ truthsR e, t.length = e.tones.length ∧ small t := fun t ht => by
  obtain ⟨u, hu, rfl⟩ := List.mem_map.1 ht
  obtain ⟨h1, h2⟩ := truthsL_ok he u hu
  have := he.len
  exact ⟨by rw [List.length_take]; omega, fun x hx => h2 x (List.mem_of_mem_take hx)⟩
theorem truthsR_nil {e : Ear} : truthsR e = [] ↔ truthsL e = [] := by unfold truthsR; simp
theorem spanL_map (num : List Int → Int) (f : List Int → List Int) {l : List (List Int)} (h : l ≠ []) : spanL num (l.map f) = spanL (fun t => num (f t)) l := by
  cases l with
  | nil => exact absurd rfl h
  | cons a l => simp only [spanL, List.map_cons, List.headD_cons, List.foldl_cons, List.foldl_map]; rfl
theorem foldl_congr' {α β : Type} {f g : β → α → β} : ∀ {l : List α} {b : β}, (∀ b, ∀ x ∈ l, f b x = g b x) → l.foldl f b = l.foldl g b
  | [], _, _ => rfl
  | a :: l, b, h => by
    simp only [List.foldl_cons]
    rw [h b a (by simp)]
    exact foldl_congr' fun b x hx => h b x (by simp [hx])
theorem spanL_congr {num num' : List Int → Int} {l : List (List Int)} (h : l ≠ []) (hn : ∀ t ∈ l, num t = num' t) : spanL num l = spanL num' l := by
  cases l with
  | nil => exact absurd rfl h
  | cons a l =>
    unfold spanL
    simp only [List.headD_cons]
    rw [hn a (by simp)]
    exact foldl_congr' fun b x hx => by simp only [spanS]; rw [hn x hx]
theorem spanR {e : Ear} (num num' : List Int → Int) (h : truthsL e ≠ []) (hn : ∀ t, num (t.take e.tones.length) = num' t) : spanL num (truthsR e) = spanL num' (truthsL e) := by
  unfold truthsR
  rw [spanL_map _ _ h]
  exact spanL_congr h fun t _ => hn t
theorem rcount {e : Ear} (p q : List Int → Bool) (hn : ∀ t, p (t.take e.tones.length) = q t) : ((truthsR e).filter p).length = ((truthsL e).filter q).length := by
  unfold truthsR
  rw [List.filter_map, List.length_map]
  congr 2
  funext t
  exact hn t
theorem truthsR_length (e : Ear) : (truthsR e).length = (truthsL e).length := by unfold truthsR; simp
def rall_s := spec2 tEar tIs fun e t => if ck e = 0 ∧ t.length ≤ e.tones.length ∧ small t then some (tss (rallL e t)) else none
theorem rall_ok : ∀ xs v, rall_s xs = some v → PureV Tryz.prog 51 xs v :=
  spec2_ok fun e t v h => by have h := someIf h; rw [← h.2]; exact rall_p e h.1.1 (e.tones.length - t.length) t (by omega) h.1.2.2
def rverd_s := spec2 tI tI fun so n => some (.int .i64 (if so = n then 1 else if so = 0 then 2 else 3))
theorem verd_int {a b : Nat} : verd a b = if (a : Int) = b then 1 else if (a : Int) = 0 then 2 else 3 := by unfold verd; grind
theorem verd_fold {a b : Nat} : (if (a : Int) = b then (1 : Int) else if (a : Int) = 0 then 2 else 3) = verd a b := verd_int.symm
def fs108 (f : FuncId) (xs : List AV) : Option AV := if f = 51 then rall_s xs else fs107 f xs
theorem fs108_ok : ∀ f xs v, fs108 f xs = some v → PureV Tryz.prog f xs v := by
  intro f xs v h
  unfold fs108 at h
  split at h
  · rename_i e; subst e; exact rall_ok _ _ h
  exact fs107_ok _ _ _ h
attribute [go_sem] fs108 rall_s
theorem small0 : small [] := fun x hx => by cases hx
/-- An element of a list of lists. -/
theorem idx_iss {L : List (List Int)} {i : Nat} (h : i < L.length) : idx (L.map isv) (i : Int) = some (isv L[i]) := idx_map h
theorem ends_p (L : List (List Int)) (x : Int) (hL : L ≠ []) (hl : L.length ≤ 4294967296) (hx : 0 ≤ x) (hxl : ∀ t ∈ L, x < t.length) : PureV Tryz.prog 55 [tss L, .int .i64 x] (spanL (fun t => tg t x) L).av := by
  refine PureV.of_ev (E := Tryz.E 48 Tryz.ord55 fs0) (Tryz.envOK 48 Tryz.ord55 fs0 fs0_ok) (Rng.plain _) Tryz.kp55 Tryz.func55 rfl (by kernel_rfl) (by simp [Tryz.E]) (Callable.of Tryz.func55 (by kernel_rfl) (by kernel_rfl)) (by kernel_rfl) ?_
  intro σ
  have h0 : 0 < L.length := List.length_pos_iff.2 hL
  have hidx : idx (L.map isv) 0 = some (isv L[0]) := idx_map (i := 0) h0
  have hx0 : idx (L[0].map (AV.int .i64)) x = some (.int .i64 (tg L[0] x)) := idx_tg hx (hxl _ (List.getElem_mem h0))
  have hd : L.headD [] = L[0] := by cases L with | nil => exact absurd rfl hL | cons a b => rfl
  have hsp : spanL (fun t => tg t x) L = L.foldl (spanS fun t => tg t x) ⟨tg L[0] x, tg L[0] x⟩ := by rw [spanL, hd]
  rw [hsp]
  generalize tg L[0] x = v0 at hx0 ⊢
  generalize L[0] = T0 at hidx hx0
  simp only [tss]
  simp -implicitDefEqProofs (maxSteps := 2000000) (disch := omega) only [go_sem, reduceCtorEq, Nat.reduceAdd, Nat.reduceSub, Nat.reduceMul, Nat.reduceLT, Nat.reduceLeDiff, Nat.reduceEqDiff, Nat.reduceBEq, Int.reduceToNat, Int.reduceLT, Int.reduceLE, Int.reduceEq, Int.reduceNeg, Int.reduceAdd, Int.reduceSub, Int.reduceMul, ↓reduceIte, Int.reduceBEq, Int.reduceBNe, hidx, hx0, isv]
  have hf0 : (L.take 0).foldl (spanS fun t => tg t x) ⟨v0, v0⟩ = ⟨v0, v0⟩ := rfl
  have hfa := foldl_all (spanS fun t => tg t x) ⟨v0, v0⟩ L
  have hft := foldl_take (spanS fun t => tg t x) ⟨v0, v0⟩ L
  generalize hF : (fun i => (L.take i).foldl (spanS fun t => tg t x) ⟨v0, v0⟩) = F
  have hF' : ∀ i, (L.take i).foldl (spanS fun t => tg t x) ⟨v0, v0⟩ = F i := fun i => by rw [← hF]
  simp only [hF'] at hf0 hfa hft
  refine ARun.forS (Tryz.envOK 48 Tryz.ord55 fs0 fs0_ok) L.length (fun _ => True) (fun i => [(6, .int .i64 i)]) (fun i j => σ ++ (.cells [.int .i64 0, .int .i64 0] :: .cells [.int .i64 (F i).lo, .int .i64 (F i).hi] :: j)) [] (by kernel_rfl) (by simp [hf0]) (by simp [upd, ins, subF, lookA]) trivial ?_ ?_
  · intro i j hi _ ih
    have hri : idx (L.map isv) (i : Int) = some (isv L[i]) := idx_iss hi
    have hrx : idx (L[i].map (AV.int .i64)) x = some (.int .i64 (tg L[i] x)) := idx_tg hx (hxl _ (List.getElem_mem hi))
    rw [hft i hi] at ih
    generalize F i = f at ih ⊢
    simp only [spanS, mn, mx] at ih
    generalize tg L[i] x = vi at hrx ih
    generalize L[i] = Ti at hri hrx
    simp -implicitDefEqProofs (maxSteps := 2000000) (disch := omega) only [go_sem, reduceCtorEq, Nat.reduceAdd, Nat.reduceSub, Nat.reduceMul, Nat.reduceLT, Nat.reduceLeDiff, Nat.reduceEqDiff, Nat.reduceBEq, Int.reduceToNat, Int.reduceLT, Int.reduceLE, Int.reduceEq, Int.reduceNeg, Int.reduceAdd, Int.reduceSub, Int.reduceMul, ↓reduceIte, Int.reduceBEq, Int.reduceBNe, hri, hrx, isv]
    exact (ih trivial j).castS rfl (by simp [upd, ins, subF, lookA])
  · intro j _
    rw [← hfa]
    generalize F L.length = f
    simp -implicitDefEqProofs (maxSteps := 2000000) (disch := omega) only [go_sem, reduceCtorEq, Nat.reduceAdd, Nat.reduceSub, Nat.reduceMul, Nat.reduceLT, Nat.reduceLeDiff, Nat.reduceEqDiff, Nat.reduceBEq, Int.reduceToNat, Int.reduceLT, Int.reduceLE, Int.reduceEq, Int.reduceNeg, Int.reduceAdd, Int.reduceSub, Int.reduceMul, ↓reduceIte, Int.reduceBEq, Int.reduceBNe, Rng.av]
/-- A place that all lists have. -/
def inT (x : Int) (L : List (List Int)) : Prop := ∀ t ∈ L, x < t.length
instance (x : Int) (L : List (List Int)) : Decidable (inT x L) := by unfold inT; infer_instance
def ends_s := spec2 tIss tI fun L x => if L ≠ [] ∧ L.length ≤ 4294967296 ∧ 0 ≤ x ∧ inT x L then some (spanL (fun t => tg t x) L).av else none
theorem ends_ok : ∀ xs v, ends_s xs = some v → PureV Tryz.prog 55 xs v :=
  spec2_ok fun L x v h => by have h := someIf h; rw [← h.2]; exact ends_p L x h.1.1 h.1.2.1 h.1.2.2.1 h.1.2.2.2
def rwithin_s := spec3 tIss tI tRng fun L x w => if L.length ≤ 4294967296 ∧ 0 ≤ x ∧ inT x L then some (.int .i64 (verd (L.filter (qis x w)).length L.length)) else none
def fs109 (f : FuncId) (xs : List AV) : Option AV := if f = 55 then ends_s xs else fs108 f xs
theorem fs109_ok : ∀ f xs v, fs109 f xs = some v → PureV Tryz.prog f xs v := by
  intro f xs v h
  unfold fs109 at h
  split at h
  · rename_i e; subst e; exact ends_ok _ _ h
  exact fs108_ok _ _ _ h
attribute [go_sem] fs109 ends_s
end Go.Proofs
set_option linter.unusedSimpArgs false
set_option linter.unusedVariables false
set_option maxRecDepth 100000
namespace Go.Proofs
open Go Go.Mu

theorem rtongue_p (e : Ear) (x : Int) (h1 : e.tones.length ≤ 4294967296) (h2 : e.rds.length ≤ 4294967296) : PureV Tryz.prog 59 [e.av, .int .i64 x] (.int .i64 (if ck e ≠ 0 then ck e else if 0 ≤ x ∧ x ≤ e.tones.length - 1 then 0 else 3)) := by
  refine PureV.of_ev (E := Tryz.E 18 (fun _ => ([], [])) fs109) (Tryz.envOK 18 (fun _ => ([], [])) fs109 fs109_ok) (.int) Tryz.kp59 Tryz.func59 rfl (by kernel_rfl) (by simp [Tryz.E]) (Callable.of Tryz.func59 (by kernel_rfl) (by kernel_rfl)) (by kernel_rfl) ?_
  intro σ
  obtain ⟨sl, ts, rs⟩ := e
  simp only at h1 h2
  simp only [Ear.av]
  simp -implicitDefEqProofs (maxSteps := 2000000) (disch := omega) only [go_sem, reduceCtorEq, Nat.reduceAdd, Nat.reduceSub, Nat.reduceMul, Nat.reduceLT, Nat.reduceLeDiff, Nat.reduceEqDiff, Nat.reduceBEq, Int.reduceToNat, Int.reduceLT, Int.reduceLE, Int.reduceEq, Int.reduceNeg, Int.reduceAdd, Int.reduceSub, Int.reduceMul, ↓reduceIte, Int.reduceBEq, Int.reduceBNe]
  grind
def rtongue_s := spec2 tEar tI fun e x => if e.tones.length ≤ 4294967296 ∧ e.rds.length ≤ 4294967296 then some (.int .i64 (if ck e ≠ 0 then ck e else if 0 ≤ x ∧ x ≤ e.tones.length - 1 then 0 else 3)) else none
theorem rtongue_ok : ∀ xs v, rtongue_s xs = some v → PureV Tryz.prog 59 xs v :=
  spec2_ok fun e x v h => by have h := someIf h; rw [← h.2]; exact rtongue_p e x h.1.1 h.1.2
def rtwo_s := spec3 tEar tI tI fun e x y => if e.tones.length ≤ 4294967296 ∧ e.rds.length ≤ 4294967296 then some (.int .i64 (if ck e ≠ 0 then ck e else ckTwo e.tones.length x y)) else none
def fs110 (f : FuncId) (xs : List AV) : Option AV := if f = 59 then rtongue_s xs else fs109 f xs
theorem fs110_ok : ∀ f xs v, fs110 f xs = some v → PureV Tryz.prog f xs v := by
  intro f xs v h
  unfold fs110 at h
  split at h
  · rename_i e; subst e; exact rtongue_ok _ _ h
  exact fs109_ok _ _ _ h
attribute [go_sem] fs110 rtongue_s
def rwant_s := spec3 tEar tI tRng fun e x w => if e.tones.length ≤ 4294967296 ∧ e.rds.length ≤ 4294967296 then some (.int .i64 (if ck e ≠ 0 then ck e else ckWant e.tones.length x w)) else none
def fs111 (f : FuncId) (xs : List AV) : Option AV :=  fs110 f xs
theorem fs111_ok : ∀ f xs v, fs111 f xs = some v → PureV Tryz.prog f xs v := by
  intro f xs v h
  unfold fs111 at h
  exact fs110_ok _ _ _ h
attribute [go_sem] fs111
end Go.Proofs
set_option linter.unusedSimpArgs false
set_option linter.unusedVariables false
set_option maxRecDepth 100000
namespace Go.Proofs
open Go Go.Mu

attribute [go_sem] tRngs_dec
/-- One round of a loop. -/
theorem ARun.once {E : Env} (hE : EnvOK E) {ro : Option Nat} {c : Code} {k : List Item} {kp : Nat → Bool} {tm sl : List (Nat × AV)} {σ : List AObj} {Q : Post}
    (hO : todoOK E (.code c :: .inLoop c :: k) = true) (h : ev E ro 100000 (.code c :: .inLoop c :: k) ⟨kp, [], sl⟩ σ Q) : ARun E ro (.code (.loop c) :: k) ⟨kp, tm, sl⟩ σ Q :=
  ARun.anew (fr := ⟨kp, tm, sl⟩) (.loop (ev_sound hE hO h))
theorem same_step {α : Type} [DecidableEq α] {a b : List α} {i : Nat} (hl : a.length = b.length) (h : i < a.length) (ht : a.take i = b.take i) : (a.take (i + 1) = b.take (i + 1)) ↔ a[i] = b[i]'(by omega) := by
  have ta := List.take_succ_eq_append_getElem h
  have tb := List.take_succ_eq_append_getElem (l := b) (i := i) (by omega)
  rw [ta, tb, ht]
  simp only [List.append_cancel_left_eq, List.cons.injEq, and_true]
theorem sameInts_p (a b : List Int) (hl : a.length ≤ 4294967296) (hl2 : b.length ≤ 4294967296) : PureV Tryz.prog 21 [.list .no 1 (a.map (.int .i64)), .list .no 1 (b.map (.int .i64))] (.bool (decide (a = b))) := by
  refine PureV.of_ev (E := Tryz.E 31 Tryz.ord21 fs0) (Tryz.envOK 31 Tryz.ord21 fs0 fs0_ok) (.bool) Tryz.kp21 Tryz.func21 rfl (by kernel_rfl) (by simp [Tryz.E]) (Callable.of Tryz.func21 (by kernel_rfl) (by kernel_rfl)) (by kernel_rfl) ?_
  intro σ
  by_cases hlen : a.length = b.length
  · have hz : ((a.length : Int) = b.length) := by omega
    simp -implicitDefEqProofs (maxSteps := 2000000) (disch := omega) only [go_sem, reduceCtorEq, Nat.reduceAdd, Nat.reduceSub, Nat.reduceMul, Nat.reduceLT, Nat.reduceLeDiff, Nat.reduceEqDiff, Nat.reduceBEq, Int.reduceToNat, Int.reduceLT, Int.reduceLE, Int.reduceEq, Int.reduceNeg, Int.reduceAdd, Int.reduceSub, Int.reduceMul, ↓reduceIte, Int.reduceBEq, Int.reduceBNe]
    refine ARun.loopJ (Tryz.envOK 31 Tryz.ord21 fs0 fs0_ok) (α := Nat × Bool) (fun p => a.length - p.1) (fun p τ => τ = σ ∧ p.1 ≤ a.length ∧ p.2 = decide (a.take p.1 = b.take p.1)) (fun p => [(5, .bool p.2), (6, .int .i64 p.1)]) (0, true) (by kernel_rfl) (by simp [upd, ins, subF, lookA]) ⟨rfl, Nat.zero_le _, by simp⟩ ?_
    rintro ⟨i, c⟩ τ ⟨rfl, hi, hc⟩ ih
    simp only at hi hc ih
    cases c
    · simp -implicitDefEqProofs (maxSteps := 2000000) (disch := omega) only [go_sem, reduceCtorEq, Nat.reduceAdd, Nat.reduceSub, Nat.reduceMul, Nat.reduceLT, Nat.reduceLeDiff, Nat.reduceEqDiff, Nat.reduceBEq, Int.reduceToNat, Int.reduceLT, Int.reduceLE, Int.reduceEq, Int.reduceNeg, Int.reduceAdd, Int.reduceSub, Int.reduceMul, ↓reduceIte, Int.reduceBEq, Int.reduceBNe]
      have : ¬ a = b := fun e => by subst e; simp at hc
      simp [this]
    · have htk : a.take i = b.take i := by simpa using hc
      by_cases hlt : i < a.length
      · have hst := same_step hlen hlt htk
        have hia : idx (a.map (AV.int .i64)) (i : Int) = some (.int .i64 a[i]) := idx_nat hlt
        have hib : idx (b.map (AV.int .i64)) (i : Int) = some (.int .i64 (b[i]'(by omega))) := idx_nat (by omega)
        generalize a[i] = x at hst hia
        generalize b[i]'(by omega) = y at hst hib
        clear hc htk
        simp -implicitDefEqProofs (maxSteps := 2000000) (disch := omega) only [go_sem, reduceCtorEq, Nat.reduceAdd, Nat.reduceSub, Nat.reduceMul, Nat.reduceLT, Nat.reduceLeDiff, Nat.reduceEqDiff, Nat.reduceBEq, Int.reduceToNat, Int.reduceLT, Int.reduceLE, Int.reduceEq, Int.reduceNeg, Int.reduceAdd, Int.reduceSub, Int.reduceMul, ↓reduceIte, Int.reduceBEq, Int.reduceBNe, hia, hib]
        refine ⟨fun h => (ih (i + 1, true) _ (by simp only; omega) ⟨rfl, by simp only; omega, ?_⟩).castS rfl (by simp [upd, ins, subF, lookA]), fun h => (ih (i + 1, false) _ (by simp only; omega) ⟨rfl, by simp only; omega, ?_⟩).castS rfl (by simp [upd, ins, subF, lookA])⟩
        · simp [hst, h]
        · simp [hst, h]
      · have : i = a.length := by omega
        subst this
        simp -implicitDefEqProofs (maxSteps := 2000000) (disch := omega) only [go_sem, reduceCtorEq, Nat.reduceAdd, Nat.reduceSub, Nat.reduceMul, Nat.reduceLT, Nat.reduceLeDiff, Nat.reduceEqDiff, Nat.reduceBEq, Int.reduceToNat, Int.reduceLT, Int.reduceLE, Int.reduceEq, Int.reduceNeg, Int.reduceAdd, Int.reduceSub, Int.reduceMul, ↓reduceIte, Int.reduceBEq, Int.reduceBNe]
        have : a = b := by rwa [List.take_length, hlen, List.take_length] at htk
        simp [this]
  · have hz : ¬ ((a.length : Int) = b.length) := by omega
    have : ¬ a = b := fun e => hlen (by rw [e])
    simp -implicitDefEqProofs (maxSteps := 2000000) (disch := omega) only [go_sem, reduceCtorEq, Nat.reduceAdd, Nat.reduceSub, Nat.reduceMul, Nat.reduceLT, Nat.reduceLeDiff, Nat.reduceEqDiff, Nat.reduceBEq, Int.reduceToNat, Int.reduceLT, Int.reduceLE, Int.reduceEq, Int.reduceNeg, Int.reduceAdd, Int.reduceSub, Int.reduceMul, ↓reduceIte, Int.reduceBEq, Int.reduceBNe]
    refine ARun.once (Tryz.envOK 31 Tryz.ord21 fs0 fs0_ok) (by kernel_rfl) ?_
    simp -implicitDefEqProofs (maxSteps := 2000000) (disch := omega) only [go_sem, reduceCtorEq, Nat.reduceAdd, Nat.reduceSub, Nat.reduceMul, Nat.reduceLT, Nat.reduceLeDiff, Nat.reduceEqDiff, Nat.reduceBEq, Int.reduceToNat, Int.reduceLT, Int.reduceLE, Int.reduceEq, Int.reduceNeg, Int.reduceAdd, Int.reduceSub, Int.reduceMul, ↓reduceIte, Int.reduceBEq, Int.reduceBNe]
    simp [this]
def sameInts_s := spec2 tIs tIs fun a b => if a.length ≤ 4294967296 ∧ b.length ≤ 4294967296 then some (.bool (decide (a = b))) else none
theorem sameInts_ok : ∀ xs v, sameInts_s xs = some v → PureV Tryz.prog 21 xs v :=
  spec2_ok fun a b v h => by have h := someIf h; rw [← h.2]; exact sameInts_p a b h.1.1 h.1.2
theorem rd_ints (x y : Rd) : ([x.kind, x.a, x.b, x.sec, x.shown.lo, x.shown.hi] == [y.kind, y.a, y.b, y.sec, y.shown.lo, y.shown.hi]) = decide (x = y) := by
  rw [Bool.eq_iff_iff]
  obtain ⟨x1, x2, x3, x4, x5, x6⟩ := x
  obtain ⟨y1, y2, y3, y4, y5, y6⟩ := y
  simp
theorem sameEars_p (x y : Ear) (h1 : x.tones.length ≤ 4294967296) (h2 : x.rds.length ≤ 4294967296) (h3 : y.tones.length ≤ 4294967296) (h4 : y.rds.length ≤ 4294967296) : PureV Tryz.prog 22 [x.av, y.av] (.bool (decide (x = y))) := by
  refine PureV.of_ev (E := Tryz.E 50 Tryz.ord22 fs14) (Tryz.envOK 50 Tryz.ord22 fs14 fs14_ok) (.bool) Tryz.kp22 Tryz.func22 rfl (by kernel_rfl) (by simp [Tryz.E]) (Callable.of Tryz.func22 (by kernel_rfl) (by kernel_rfl)) (by kernel_rfl) ?_
  intro σ
  obtain ⟨s, ts, a⟩ := x
  obtain ⟨s', us, b⟩ := y
  simp only at h1 h2 h3 h4
  have heq : ((⟨s, ts, a⟩ : Ear) = ⟨s', us, b⟩) = (s = s' ∧ ts = us ∧ a = b) := by simp
  rw [show decide ((⟨s, ts, a⟩ : Ear) = ⟨s', us, b⟩) = decide (s = s' ∧ ts = us ∧ a = b) by simp]
  simp only [Ear.av]
  by_cases e1 : s = s'
  · by_cases e2 : ts = us
    · subst e1 e2
      by_cases hlen : a.length = b.length
      · have hz : ((a.length : Int) = b.length) := by omega
        simp -implicitDefEqProofs (maxSteps := 2000000) (disch := omega) only [go_sem, reduceCtorEq, Nat.reduceAdd, Nat.reduceSub, Nat.reduceMul, Nat.reduceLT, Nat.reduceLeDiff, Nat.reduceEqDiff, Nat.reduceBEq, Int.reduceToNat, Int.reduceLT, Int.reduceLE, Int.reduceEq, Int.reduceNeg, Int.reduceAdd, Int.reduceSub, Int.reduceMul, ↓reduceIte, Int.reduceBEq, Int.reduceBNe]
        refine ARun.loopJ (Tryz.envOK 50 Tryz.ord22 fs14 fs14_ok) (α := Nat × Bool) (fun p => a.length - p.1) (fun p τ => τ = σ ++ [.cells [.int .i64 s, .list .no 2 (ts.map Rng.av), .list .no 6 (a.map Rd.av)], .cells [.int .i64 s, .list .no 2 (ts.map Rng.av), .list .no 6 (b.map Rd.av)]] ∧ p.1 ≤ a.length ∧ p.2 = decide (a.take p.1 = b.take p.1)) (fun p => [(5, .bool p.2), (6, .int .i64 p.1)]) (0, true) (by kernel_rfl) (by simp [upd, ins, subF, lookA]) ⟨rfl, Nat.zero_le _, by simp⟩ ?_
        rintro ⟨i, c⟩ τ ⟨rfl, hi, hc⟩ ih
        simp only at hi hc ih
        cases c
        · simp -implicitDefEqProofs (maxSteps := 2000000) (disch := omega) only [go_sem, reduceCtorEq, Nat.reduceAdd, Nat.reduceSub, Nat.reduceMul, Nat.reduceLT, Nat.reduceLeDiff, Nat.reduceEqDiff, Nat.reduceBEq, Int.reduceToNat, Int.reduceLT, Int.reduceLE, Int.reduceEq, Int.reduceNeg, Int.reduceAdd, Int.reduceSub, Int.reduceMul, ↓reduceIte, Int.reduceBEq, Int.reduceBNe]
          have : ¬ a = b := fun e => by subst e; simp at hc
          simp [this]
        · have htk : a.take i = b.take i := by simpa using hc
          by_cases hlt : i < a.length
          · have hst := same_step hlen hlt htk
            have hia : idx (a.map Rd.av) (i : Int) = some a[i].av := idx_nat hlt
            have hib : idx (b.map Rd.av) (i : Int) = some (b[i]'(by omega)).av := idx_nat (by omega)
            generalize a[i] = x at hst hia
            generalize b[i]'(by omega) = y at hst hib
            have hrd := rd_ints x y
            clear hc htk
            simp -implicitDefEqProofs (maxSteps := 2000000) (disch := omega) only [go_sem, reduceCtorEq, Nat.reduceAdd, Nat.reduceSub, Nat.reduceMul, Nat.reduceLT, Nat.reduceLeDiff, Nat.reduceEqDiff, Nat.reduceBEq, Int.reduceToNat, Int.reduceLT, Int.reduceLE, Int.reduceEq, Int.reduceNeg, Int.reduceAdd, Int.reduceSub, Int.reduceMul, ↓reduceIte, Int.reduceBEq, Int.reduceBNe, hia, hib, Rd.av]
            have hx : ([x.kind, x.a, x.b, x.sec, x.shown.lo, x.shown.hi] = [y.kind, y.a, y.b, y.sec, y.shown.lo, y.shown.hi]) = (x = y) := by
              rw [Bool.eq_iff_iff] at hrd
              simpa using hrd
            rw [hx]
            refine ⟨fun h => (ih (i + 1, true) _ (by simp only; omega) ⟨by simp, by simp only; omega, ?_⟩).castS rfl (by simp [upd, ins, subF, lookA]), fun h => (ih (i + 1, false) _ (by simp only; omega) ⟨by simp, by simp only; omega, ?_⟩).castS rfl (by simp [upd, ins, subF, lookA])⟩
            · simp [hst, h]
            · simp [hst, h]
          · have : i = a.length := by omega
            subst this
            simp -implicitDefEqProofs (maxSteps := 2000000) (disch := omega) only [go_sem, reduceCtorEq, Nat.reduceAdd, Nat.reduceSub, Nat.reduceMul, Nat.reduceLT, Nat.reduceLeDiff, Nat.reduceEqDiff, Nat.reduceBEq, Int.reduceToNat, Int.reduceLT, Int.reduceLE, Int.reduceEq, Int.reduceNeg, Int.reduceAdd, Int.reduceSub, Int.reduceMul, ↓reduceIte, Int.reduceBEq, Int.reduceBNe]
            have : a = b := by rwa [List.take_length, hlen, List.take_length] at htk
            simp [this]
      · have hz : ¬ ((a.length : Int) = b.length) := by omega
        have : ¬ a = b := fun e => hlen (by rw [e])
        simp -implicitDefEqProofs (maxSteps := 2000000) (disch := omega) only [go_sem, reduceCtorEq, Nat.reduceAdd, Nat.reduceSub, Nat.reduceMul, Nat.reduceLT, Nat.reduceLeDiff, Nat.reduceEqDiff, Nat.reduceBEq, Int.reduceToNat, Int.reduceLT, Int.reduceLE, Int.reduceEq, Int.reduceNeg, Int.reduceAdd, Int.reduceSub, Int.reduceMul, ↓reduceIte, Int.reduceBEq, Int.reduceBNe]
        refine ARun.once (Tryz.envOK 50 Tryz.ord22 fs14 fs14_ok) (by kernel_rfl) ?_
        simp -implicitDefEqProofs (maxSteps := 2000000) (disch := omega) only [go_sem, reduceCtorEq, Nat.reduceAdd, Nat.reduceSub, Nat.reduceMul, Nat.reduceLT, Nat.reduceLeDiff, Nat.reduceEqDiff, Nat.reduceBEq, Int.reduceToNat, Int.reduceLT, Int.reduceLE, Int.reduceEq, Int.reduceNeg, Int.reduceAdd, Int.reduceSub, Int.reduceMul, ↓reduceIte, Int.reduceBEq, Int.reduceBNe]
        simp [this]
    · simp -implicitDefEqProofs (maxSteps := 2000000) (disch := omega) only [go_sem, reduceCtorEq, Nat.reduceAdd, Nat.reduceSub, Nat.reduceMul, Nat.reduceLT, Nat.reduceLeDiff, Nat.reduceEqDiff, Nat.reduceBEq, Int.reduceToNat, Int.reduceLT, Int.reduceLE, Int.reduceEq, Int.reduceNeg, Int.reduceAdd, Int.reduceSub, Int.reduceMul, ↓reduceIte, Int.reduceBEq, Int.reduceBNe, e2]
      refine ARun.once (Tryz.envOK 50 Tryz.ord22 fs14 fs14_ok) (by kernel_rfl) ?_
      simp -implicitDefEqProofs (maxSteps := 2000000) (disch := omega) only [go_sem, reduceCtorEq, Nat.reduceAdd, Nat.reduceSub, Nat.reduceMul, Nat.reduceLT, Nat.reduceLeDiff, Nat.reduceEqDiff, Nat.reduceBEq, Int.reduceToNat, Int.reduceLT, Int.reduceLE, Int.reduceEq, Int.reduceNeg, Int.reduceAdd, Int.reduceSub, Int.reduceMul, ↓reduceIte, Int.reduceBEq, Int.reduceBNe, e2]
  · simp -implicitDefEqProofs (maxSteps := 2000000) (disch := omega) only [go_sem, reduceCtorEq, Nat.reduceAdd, Nat.reduceSub, Nat.reduceMul, Nat.reduceLT, Nat.reduceLeDiff, Nat.reduceEqDiff, Nat.reduceBEq, Int.reduceToNat, Int.reduceLT, Int.reduceLE, Int.reduceEq, Int.reduceNeg, Int.reduceAdd, Int.reduceSub, Int.reduceMul, ↓reduceIte, Int.reduceBEq, Int.reduceBNe]
    refine ARun.once (Tryz.envOK 50 Tryz.ord22 fs14 fs14_ok) (by kernel_rfl) ?_
    simp -implicitDefEqProofs (maxSteps := 2000000) (disch := omega) only [go_sem, reduceCtorEq, Nat.reduceAdd, Nat.reduceSub, Nat.reduceMul, Nat.reduceLT, Nat.reduceLeDiff, Nat.reduceEqDiff, Nat.reduceBEq, Int.reduceToNat, Int.reduceLT, Int.reduceLE, Int.reduceEq, Int.reduceNeg, Int.reduceAdd, Int.reduceSub, Int.reduceMul, ↓reduceIte, Int.reduceBEq, Int.reduceBNe, e1]
def sameEars_s := spec2 tEar tEar fun x y => if x.tones.length ≤ 4294967296 ∧ x.rds.length ≤ 4294967296 ∧ y.tones.length ≤ 4294967296 ∧ y.rds.length ≤ 4294967296 then some (.bool (decide (x = y))) else none
theorem sameEars_ok : ∀ xs v, sameEars_s xs = some v → PureV Tryz.prog 22 xs v :=
  spec2_ok fun x y v h => by have h := someIf h; rw [← h.2]; exact sameEars_p x y h.1.1 h.1.2.1 h.1.2.2.1 h.1.2.2.2
end Go.Proofs
