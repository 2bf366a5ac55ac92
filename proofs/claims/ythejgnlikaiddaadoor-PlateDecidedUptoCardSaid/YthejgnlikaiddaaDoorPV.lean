/- Texts of a proof: lemmas. -/
import Derived.Test.YthejgnlikaiddaaDoorPU
set_option linter.unusedSimpArgs false
set_option linter.unusedVariables false
set_option maxRecDepth 100000
namespace Go.Proofs
open Go Go.Mu

theorem ck_of_okC {c : Cat} (h : OkC c) : ckCat c = 0 := by
  have h1 := h.features
  have h2 := h.models
  have h3 : firstE (ckModel c.features) c.models = 0 := firstE_of fun m hm => by
    have hM := h.model m hm
    have g1 := hM.first
    have g2 := hM.looks
    have g3 := hM.nums
    have g4 : firstE (fun l => ckVals l c.features 1) m.looks = 0 := firstE_of fun l hl => ckVals_zero.2 (hM.look l hl)
    have g5 : firstE ckNum m.nums = 0 := firstE_of fun x hx => by
      have := hM.num x hx
      unfold ckNum; grind
    have g6 : countE m.looks.length 1 4 = 0 := countE_zero.2 (by omega)
    have g7 : countE m.nums.length m.looks.length m.looks.length = 0 := countE_zero.2 (by omega)
    unfold ckModel; grind
  have h4 : countE c.models.length 1 4 = 0 := countE_zero.2 (by omega)
  unfold ckCat; grind
theorem ck_of_okO {c : Cat} {o : Old} (h : OkC c) (ho : OkO c o) : ckOld c o = 0 := by
  have h1 := ck_of_okC h
  have h2 : ckVals o.seen c.features 0 = 0 := ckVals_zero.2 ho.seen
  have h3 := ho.plate.2
  have h4 := ho.psize
  have h5 := ho.changed
  unfold ckOld; grind
theorem okCat_of {c : Cat} (h : OkC c) : okCat c := ⟨by have := h.models; omega, fun m hm => by
  have hM := h.model m hm
  have h1 := hM.looks
  have h2 := hM.nums
  have hf := h.features
  exact ⟨by omega, by omega, fun l hl => by have := (hM.look l hl).1; omega⟩⟩
theorem okOld_of {c : Cat} {o : Old} (h : OkC c) (ho : OkO c o) : okOld o := by
  have h1 := ho.seen.1
  have h2 := ho.psize
  have hf := h.features
  exact ⟨by omega, by omega⟩
/-- A number of a range, often one of its ends. -/
theorem inner_c (r : Nat) (x : Rng) (hx : 0 ≤ x.lo ∧ x.lo ≤ x.hi ∧ x.hi ≤ 9999) (σ : List AObj) (hp : PotAt σ r) (Q : AV → List AObj → Prop) (h : ∀ s' n junk, x.lo ≤ n → n ≤ x.hi → Q (.int .i64 n) (pw σ r s' ++ junk)) :
    ACalls Tryd.prog 46 [.ptr r 0, x.av] σ Q := by
  refine ACalls.of_ev (E := Tryd.E 18 Tryd.ord46 fs0) (Tryd.envOK 18 Tryd.ord46 fs0 fs0_ok) Tryd.kp46 Tryd.func46 rfl (by kernel_rfl) (by simp [Tryd.E]) (Callable.of Tryd.func46 (by kernel_rfl) (by kernel_rfl)) (by kernel_rfl) ?_
  obtain ⟨lo, hi⟩ := x
  simp only at hx h
  simp only [Rng.av]
  have hr := hp.lt
  simp -implicitDefEqProofs (maxSteps := 2000000) (disch := omega) only [go_sem, reduceCtorEq, Nat.reduceAdd, Nat.reduceSub, Nat.reduceMul, Nat.reduceLT, Nat.reduceLeDiff, Nat.reduceEqDiff, Nat.reduceBEq, Int.reduceToNat, Int.reduceLT, Int.reduceLE, Int.reduceEq, Int.reduceNeg, Int.reduceAdd, Int.reduceSub, Int.reduceMul, ↓reduceIte, Int.reduceBEq, Int.reduceBNe, length_pw, hget_pw0, hget_pw, hset_pw0, hset_pw]
  refine within_c r lo hi (by omega) (by omega) _ hp.app _ fun s1 v h1 h2 => ?_
  rw [pw_app hr]
  simp -implicitDefEqProofs (maxSteps := 2000000) (disch := omega) only [go_sem, reduceCtorEq, Nat.reduceAdd, Nat.reduceSub, Nat.reduceMul, Nat.reduceLT, Nat.reduceLeDiff, Nat.reduceEqDiff, Nat.reduceBEq, Int.reduceToNat, Int.reduceLT, Int.reduceLE, Int.reduceEq, Int.reduceNeg, Int.reduceAdd, Int.reduceSub, Int.reduceMul, ↓reduceIte, Int.reduceBEq, Int.reduceBNe, length_pw, hget_pw0, hget_pw, hset_pw0, hset_pw]
  refine of_c r [lo, hi, v] .full (by simp) _ (hp.pw _).app _ fun s2 y hy => ?_
  rw [pw_pwa hr]
  have hb : lo ≤ y ∧ y ≤ hi := by simp at hy; omega
  simp -implicitDefEqProofs (maxSteps := 2000000) (disch := omega) only [go_sem, reduceCtorEq, Nat.reduceAdd, Nat.reduceSub, Nat.reduceMul, Nat.reduceLT, Nat.reduceLeDiff, Nat.reduceEqDiff, Nat.reduceBEq, Int.reduceToNat, Int.reduceLT, Int.reduceLE, Int.reduceEq, Int.reduceNeg, Int.reduceAdd, Int.reduceSub, Int.reduceMul, ↓reduceIte, Int.reduceBEq, Int.reduceBNe, length_pw, hget_pw0, hget_pw, hset_pw0, hset_pw]
  exact h s2 y _ hb.1 hb.2

theorem cntN_upd {p q : Nat → Bool} {f : Nat} (h : ∀ i, i ≠ f → p i = q i) (hp : p f = false) : ∀ n, f < n → cntN q n = cntN p n + if q f then 1 else 0
  | 0, h0 => by omega
  | n + 1, h0 => by
    rw [cntN_succ, cntN_succ]
    by_cases e : n = f
    · subst e
      have : cntN q n = cntN p n := by
        unfold cntN
        congr 1
        exact List.filter_congr fun i hi => by rw [List.mem_range] at hi; exact (h i (by omega)).symm
      rw [this, hp]; simp
    · rw [cntN_upd h hp n (by omega), h n e]; omega
theorem tg_set {S : List Int} {f i : Nat} {v : Int} (hf : f < S.length) : tg (S.set f v) i = if i = f then v else tg S i := by
  simp only [tg, List.getD, Int.toNat_natCast]
  rw [List.getElem?_set]
  by_cases h : f = i
  · subst h; simp [hf]
  · rw [if_neg h, if_neg (fun e => h e.symm)]
theorem changedN_set {x S : List Int} {f : Nat} {v : Int} (hf : f < S.length) (hs : tg S f = tg x f) : changedN x (S.set f v) = changedN x S + if 0 < v ∧ v ≠ tg x f then 1 else 0 := by
  have h1 : changedN x (S.set f v) = cntN (chg x (S.set f v)) S.length := by
    show cntN (chg x (S.set f v)) (S.set f v).length = _
    rw [List.length_set]
  have h2 : changedN x S = cntN (chg x S) S.length := rfl
  rw [h1, h2, cntN_upd (p := chg x S) (q := chg x (S.set f v)) (f := f) (fun i hi => ?_) ?_ _ hf]
  · have : chg x (S.set f v) f = true ↔ 0 < v ∧ v ≠ tg x f := by
      unfold chg; rw [tg_set hf, if_pos rfl]; simp
    by_cases hc : 0 < v ∧ v ≠ tg x f
    · rw [if_pos hc, if_pos (this.2 hc)]
    · rw [if_neg hc, if_neg (fun e => hc (this.1 e))]
  · unfold chg; rw [hs]; simp
  · unfold chg; rw [tg_set hf, if_neg hi]
theorem changedN_self {x : List Int} : changedN x x = 0 := by
  unfold changedN
  rw [List.length_eq_zero_iff, List.filter_eq_nil_iff]
  intro i _; unfold chg; simp
/-- What is read of a number's plate so far. -/
structure PlP (num : Int) (P : ByteArray) (f : Nat) : Prop where
  size : P.size = f
  get : ∀ i, i < f → readB num i (P.data.toList.getD i 0) = true ∧ okByte (P.data.toList.getD i 0) = true
theorem PlP.app {num : Int} {P : ByteArray} {f : Nat} (h : PlP num P f) {b : UInt8} {B : ByteArray} (hB : B.data.toList = [b]) (h1 : readB num f b = true) (h2 : okByte b = true) : PlP num (P ++ B) (f + 1) := by
  have hl : P.data.toList.length = f := by rw [Array.length_toList]; exact h.size
  have e : (P ++ B).data.toList = P.data.toList ++ [b] := by rw [ByteArray.data_append, Array.toList_append, hB]
  refine ⟨?_, fun i hi => ?_⟩
  · show (P ++ B).data.size = _
    rw [← Array.length_toList, e, List.length_append, hl]; rfl
  · rw [e]
    by_cases hif : i < f
    · have : (P.data.toList ++ [b]).getD i 0 = P.data.toList.getD i 0 := by
        simp only [List.getD]; rw [List.getElem?_append_left (by omega)]
      rw [this]; exact h.get i hif
    · have hie : i = f := by omega
      subst hie
      have : (P.data.toList ++ [b]).getD i 0 = b := by
        simp only [List.getD]; rw [List.getElem?_append_right (by omega), hl]; simp
      rw [this]; exact ⟨h1, h2⟩
theorem PlP.nil {num : Int} : PlP num ByteArray.empty 0 := ⟨rfl, fun i hi => by omega⟩
theorem digit_ok {n : Int} (h0 : 0 ≤ n) (h1 : n ≤ 9999) {f : Nat} (hf : f < 4) : ∃ b : UInt8, ((dg4 n).extract f (f + 1)).data.toList = [b] ∧ readB n f b = true ∧ okByte b = true := by
  obtain ⟨b, hb1, hb2⟩ := dg4_get h0 h1 hf
  have hlt : f < (dg4 n).size := by rw [dg4_size h0 h1]; exact hf
  refine ⟨b, ?_, ?_, ?_⟩
  · rw [ByteArray.data_extract, Array.toList_extract]
    have e : (dg4 n).data.toList[f]? = some b := by
      have := hb1
      rw [getElem?_pos (dg4 n) f hlt] at this
      rw [Array.getElem?_toList, Array.getElem?_eq_getElem (show f < (dg4 n).data.size from hlt)]
      exact this
    have hl : f < (dg4 n).data.toList.length := (List.getElem?_eq_some_iff.1 e).1
    have e2 : (dg4 n).data.toList[f] = b := (List.getElem?_eq_some_iff.1 e).2
    rw [List.extract_eq_take_drop, List.drop_eq_getElem_cons hl, e2]
    have : f + 1 - f = 1 := by omega
    rw [this]; rfl
  · unfold readB; rw [hb2]; simp
  · rw [okB_byte, hb2]
    unfold digitAt
    omega
theorem PlP.reads {num : Int} {P : ByteArray} (h : PlP num P 4) : readsP P num = true := readsP_iff.2 fun i hi => (h.get i (by have := h.size; omega)).1
theorem PlP.okPl {num : Int} {P : ByteArray} (h : PlP num P 4) : okPlate P := by
  refine ⟨by have := h.size; omega, List.all_eq_true.2 fun b hb => ?_⟩
  obtain ⟨i, hi, rfl⟩ := List.mem_iff_getElem.1 hb
  have hl : P.data.toList.length = 4 := by rw [Array.length_toList]; exact h.size
  have := (h.get i (by omega)).2
  rwa [show P.data.toList.getD i 0 = P.data.toList[i] by simp [List.getD, List.getElem?_eq_getElem hi]] at this
theorem fits_of {x : Rng} {P : ByteArray} {num : Int} (h1 : x.lo ≤ num) (h2 : num ≤ x.hi) (h3 : readsP P num = true) : fitsP x P = true := by
  have hm : num ∈ numsP x P := by
    unfold numsP
    rw [List.mem_filter]
    refine ⟨List.mem_map.2 ⟨(num - x.lo).toNat, List.mem_range.2 (by omega), by omega⟩, h3⟩
  unfold fitsP
  cases h : numsP x P with
  | nil => rw [h] at hm; simp at hm
  | cons _ _ => rfl
theorem reads_empty {P : ByteArray} {n : Int} (h : P.size = 0) : readsP P n = true := readsP_iff.2 fun i hi => by omega
theorem fits_empty {x : Rng} (h : 0 ≤ x.lo ∧ x.lo ≤ x.hi ∧ x.hi ≤ 9999) : fitsP x ByteArray.empty = true := fits_of (Int.le_refl _) h.2.1 (reads_empty rfl)
/-- An instrument that is made of numbers: what it truly is, and how many features were changed. -/
structure OldP (c : Cat) (o : Old) (i k : Nat) (n : Int) : Prop where
  ok : OkO c o
  hi : i < c.models.length
  hk : k < (c.models.getD i default).looks.length
  ch : (changedN ((c.models.getD i default).looks.getD k []) o.seen : Int) = n
  le : n ≤ o.changed
  tr : fitsP ((c.models.getD i default).nums.getD k default) o.plate = true
set_option maxHeartbeats 400000000 in
theorem oldOf_c (r : Nat) (c : Cat) (hc : OkC c) (σ : List AObj) (hp : PotAt σ r) (Q : AV → List AObj → Prop) (h : ∀ s' o i k n junk, OldP c o i k n → Q (.tup [o.av, isv [(i : Int), (c.models.getD i default).first + k], .int .i64 n]) (pw σ r s' ++ junk)) :
    ACalls Tryd.prog 13 [.ptr r 0, c.av] σ Q := by
  refine ACalls.wkW ?_
  refine ACalls.of_ev (E := Tryd.E 122 Tryd.ord13 fs6) (Tryd.envOK 122 Tryd.ord13 fs6 fs6_ok) Tryd.kp13 Tryd.func13 rfl (by kernel_rfl) (by simp [Tryd.E]) (Callable.of Tryd.func13 (by kernel_rfl) (by kernel_rfl)) (by kernel_rfl) ?_
  have hr := hp.lt
  simp only [Cat.av]
  have hcm := hc.models
  simp -implicitDefEqProofs (maxSteps := 2000000) (disch := omega) only [go_sem, reduceCtorEq, Nat.reduceAdd, Nat.reduceSub, Nat.reduceMul, Nat.reduceLT, Nat.reduceLeDiff, Nat.reduceEqDiff, Nat.reduceBEq, Int.reduceToNat, Int.reduceLT, Int.reduceLE, Int.reduceEq, Int.reduceNeg, Int.reduceAdd, Int.reduceSub, Int.reduceMul, ↓reduceIte, Int.reduceBEq, Int.reduceBNe, length_pw, hget_pw0, hget_pw, hset_pw0, hset_pw]
  refine upto_c r _ (by omega) _ hp.app _ fun s1 i0 hi1 hi2 => ?_
  rw [pw_app hr]
  obtain ⟨i, rfl⟩ : ∃ i : Nat, i0 = i := ⟨i0.toNat, by omega⟩
  have hi : i < c.models.length := by omega
  clear hi1 hi2
  have hM := hc.model _ (List.getElem_mem hi)
  have hgd : c.models.getD i default = c.models[i] := by simp [List.getD, List.getElem?_eq_getElem hi]
  have hid : idx (c.models.map Model.av) (i : Int) = some (c.models[i]).av := idx_nat hi
  have hmav : (c.models[i]).av = .agg [.int .i64 (c.models[i]).first, .list .no 1 ((c.models[i]).looks.map isv), .list .no 2 ((c.models[i]).nums.map Rng.av)] := rfl
  have hPre : ∀ o k n, k < (c.models[i]).looks.length → OkO c o → (changedN ((c.models[i]).looks.getD k []) o.seen : Int) = n → n ≤ o.changed → fitsP ((c.models[i]).nums.getD k default) o.plate = true → ∀ s' junk, Q (.tup [o.av, isv [(i : Int), (c.models[i]).first + k], .int .i64 n]) (pw σ r s' ++ junk) := fun o k n h1 h2 h3 h4 h5 s' junk => by
    have := h s' o i k n junk ⟨h2, hi, by rw [hgd]; exact h1, by rw [hgd]; exact h3, h4, by rw [hgd]; exact h5⟩
    rwa [hgd] at this
  clear h
  generalize c.models[i] = M at hM hid hmav hPre
  have hlk := hM.looks
  have hnm := hM.nums
  have hfi := hM.first
  simp -implicitDefEqProofs (maxSteps := 2000000) (disch := omega) only [go_sem, reduceCtorEq, Nat.reduceAdd, Nat.reduceSub, Nat.reduceMul, Nat.reduceLT, Nat.reduceLeDiff, Nat.reduceEqDiff, Nat.reduceBEq, Int.reduceToNat, Int.reduceLT, Int.reduceLE, Int.reduceEq, Int.reduceNeg, Int.reduceAdd, Int.reduceSub, Int.reduceMul, ↓reduceIte, Int.reduceBEq, Int.reduceBNe, length_pw, hget_pw0, hget_pw, hset_pw0, hset_pw, hid, hmav]
  refine upto_c r _ (by omega) _ (hp.pw _).app _ fun s2 k0 hi1 hi2 => ?_
  rw [pw_pwa hr]
  obtain ⟨k, rfl⟩ : ∃ k : Nat, k0 = k := ⟨k0.toNat, by omega⟩
  have hk : k < M.looks.length := by omega
  have hk2 : k < M.nums.length := by omega
  clear hi1 hi2
  have hkd : idx (M.looks.map isv) (k : Int) = some (isv M.looks[k]) := idx_nat hk
  have hkn : idx (M.nums.map Rng.av) (k : Int) = some (M.nums[k]).av := idx_nat hk2
  have hll := hM.look _ (List.getElem_mem hk)
  have hnn := hM.num _ (List.getElem_mem hk2)
  have hPre2 := fun o n => hPre o k n hk
  have hg1 : M.looks.getD k [] = M.looks[k] := by simp [List.getD, List.getElem?_eq_getElem hk]
  have hg2 : M.nums.getD k default = M.nums[k] := by simp [List.getD, List.getElem?_eq_getElem hk2]
  rw [hg1, hg2] at hPre2
  clear hPre hg1 hg2
  have hfe := hc.features
  generalize M.looks[k] = l at hkd hll hPre2
  generalize M.nums[k] = x at hkn hnn hPre2
  simp -implicitDefEqProofs (maxSteps := 2000000) (disch := omega) only [go_sem, reduceCtorEq, Nat.reduceAdd, Nat.reduceSub, Nat.reduceMul, Nat.reduceLT, Nat.reduceLeDiff, Nat.reduceEqDiff, Nat.reduceBEq, Int.reduceToNat, Int.reduceLT, Int.reduceLE, Int.reduceEq, Int.reduceNeg, Int.reduceAdd, Int.reduceSub, Int.reduceMul, ↓reduceIte, Int.reduceBEq, Int.reduceBNe, length_pw, hget_pw0, hget_pw, hset_pw0, hset_pw, hid, hmav, hkd]
  refine intsV_c l .no (by omega) _ _ ?_
  simp -implicitDefEqProofs (maxSteps := 2000000) (disch := omega) only [go_sem, reduceCtorEq, Nat.reduceAdd, Nat.reduceSub, Nat.reduceMul, Nat.reduceLT, Nat.reduceLeDiff, Nat.reduceEqDiff, Nat.reduceBEq, Int.reduceToNat, Int.reduceLT, Int.reduceLE, Int.reduceEq, Int.reduceNeg, Int.reduceAdd, Int.reduceSub, Int.reduceMul, ↓reduceIte, Int.reduceBEq, Int.reduceBNe, length_pw, hget_pw0, hget_pw, hset_pw0, hset_pw]
  have hl4 : l.length ≤ 4 := by omega
  refine ARun.loopH (Tryd.envOK 122 Tryd.ord13 fs6 fs6_ok) (α := Nat × List Int × Int) (fun a => l.length - a.1)
    (fun a τ => (∃ s, τ = pw σ r s ++ [.cells [.int .i64 c.features, .list .no 3 (c.models.map Model.av)], .cells [.list .full 0 [], .str ByteArray.empty, .int .i64 0], .cells [.int .i64 M.first, .list .no 1 (M.looks.map isv), .list .no 2 (M.nums.map Rng.av)], .vec 1 (a.2.1.map (.int .i64)), .cells [.vec (σ.length + 3) l.length, .str ByteArray.empty, .int .i64 0]]) ∧ a.1 ≤ l.length ∧ a.2.1.length = l.length ∧ (∀ y ∈ a.2.1, 0 ≤ y ∧ y ≤ 3) ∧ (changedN l a.2.1 : Int) = a.2.2 ∧ (∀ j : Nat, a.1 ≤ j → j < l.length → tg a.2.1 j = tg l j))
    (fun a => [(11, .int .i64 a.2.2), (12, .int .i64 (a.1 : Int))]) (0, l, 0) (by kernel_rfl) (by kernel_rfl) (by simp [upd, ins, subF, lookA]) ⟨⟨s2, rfl⟩, by simp, rfl, fun y hy => by have := hll.2 y hy; omega, by simp [changedN_self], fun _ _ _ => rfl⟩ ?_ ?_
  · rintro K Q' hK ⟨f, S, n⟩ τ ⟨⟨s3, rfl⟩, hf, hS, hSb, hn, hSl⟩ hlt ih
    simp only at hf hS hSb hn hSl hlt ih
    have hfl : f < l.length := by omega
    have hch := fun v => changedN_set (x := l) (S := S) (f := f) (v := v) (by omega) (hSl f (Nat.le_refl _) hfl)
    have hSf : (S.map (AV.int .i64))[f]? = some (.int .i64 (tg l f)) := by rw [← hSl f (Nat.le_refl _) hfl, tgE (by omega)]; simp [List.getElem?_eq_getElem (show f < S.length by omega)]
    have hlf : 1 ≤ tg l f ∧ tg l f ≤ 3 := by rw [tgE hfl]; exact hll.2 _ (List.getElem_mem hfl)
    have hcb : changedN l S ≤ 4 := by
      have : changedN l S ≤ S.length := Nat.le_trans (List.length_filter_le _ _) (by simp)
      omega
    have hnext : ∀ v : Int, 0 ≤ v ∧ v ≤ 3 → (S.set f v).length = l.length ∧ (∀ y ∈ S.set f v, 0 ≤ y ∧ y ≤ 3) ∧ (∀ j : Nat, f + 1 ≤ j → j < l.length → tg (S.set f v) j = tg l j) := fun v hv => by
      refine ⟨by rw [List.length_set]; exact hS, fun y hy => ?_, fun j hj hjl => ?_⟩
      · rcases List.mem_or_eq_of_mem_set hy with hy | rfl
        · exact hSb y hy
        · exact hv
      · rw [tg_set (by omega), if_neg (by omega)]; exact hSl j (by omega) hjl
    have hstay := fun j (hj : f + 1 ≤ j) hjl => hSl j (by omega) hjl
    clear hSl hPre2 hll
    have hn4 : 0 ≤ n ∧ n ≤ 4 := by omega
    simp -implicitDefEqProofs (maxSteps := 2000000) (disch := omega) only [go_sem, reduceCtorEq, Nat.reduceAdd, Nat.reduceSub, Nat.reduceMul, Nat.reduceLT, Nat.reduceLeDiff, Nat.reduceEqDiff, Nat.reduceBEq, Int.reduceToNat, Int.reduceLT, Int.reduceLE, Int.reduceEq, Int.reduceNeg, Int.reduceAdd, Int.reduceSub, Int.reduceMul, ↓reduceIte, Int.reduceBEq, Int.reduceBNe, length_pw, hget_pw0, hget_pw, hset_pw0, hset_pw]
    refine upto_c r 5 (by omega) _ (hp.pw _).app _ fun s4 u hu1 hu2 => ?_
    rw [pw_pwa hr]
    have h0 := hnext 0 (by omega)
    have hc0 := hch 0
    rw [if_neg (by omega)] at hc0
    rcases (by omega : u = 0 ∨ u = 1 ∨ u = 2 ∨ 3 ≤ u) with rfl | rfl | rfl | hu
    · simp -implicitDefEqProofs (maxSteps := 2000000) (disch := omega) only [go_sem, reduceCtorEq, Nat.reduceAdd, Nat.reduceSub, Nat.reduceMul, Nat.reduceLT, Nat.reduceLeDiff, Nat.reduceEqDiff, Nat.reduceBEq, Int.reduceToNat, Int.reduceLT, Int.reduceLE, Int.reduceEq, Int.reduceNeg, Int.reduceAdd, Int.reduceSub, Int.reduceMul, ↓reduceIte, Int.reduceBEq, Int.reduceBNe, length_pw, hget_pw0, hget_pw, hset_pw0, hset_pw, hSf]
      have hJn : (changedN l (S.set f 0) : Int) = n := by omega
      have hnx := ih (f + 1, S.set f 0, n) _ (by simp only; omega) ⟨⟨s4, rfl⟩, by simp only; omega, h0.1, h0.2.1, hJn, h0.2.2⟩
      exact hnx.castS (by simp only [List.map_set]) (by simp [upd, ins, subF, lookA])
    · simp -implicitDefEqProofs (maxSteps := 2000000) (disch := omega) only [go_sem, reduceCtorEq, Nat.reduceAdd, Nat.reduceSub, Nat.reduceMul, Nat.reduceLT, Nat.reduceLeDiff, Nat.reduceEqDiff, Nat.reduceBEq, Int.reduceToNat, Int.reduceLT, Int.reduceLE, Int.reduceEq, Int.reduceNeg, Int.reduceAdd, Int.reduceSub, Int.reduceMul, ↓reduceIte, Int.reduceBEq, Int.reduceBNe, length_pw, hget_pw0, hget_pw, hset_pw0, hset_pw, hSf]
      have hJn : (changedN l (S.set f 0) : Int) = n := by omega
      have hnx := ih (f + 1, S.set f 0, n) _ (by simp only; omega) ⟨⟨s4, rfl⟩, by simp only; omega, h0.1, h0.2.1, hJn, h0.2.2⟩
      exact hnx.castS (by simp only [List.map_set]) (by simp [upd, ins, subF, lookA])
    · simp -implicitDefEqProofs (maxSteps := 2000000) (disch := omega) only [go_sem, reduceCtorEq, Nat.reduceAdd, Nat.reduceSub, Nat.reduceMul, Nat.reduceLT, Nat.reduceLeDiff, Nat.reduceEqDiff, Nat.reduceBEq, Int.reduceToNat, Int.reduceLT, Int.reduceLE, Int.reduceEq, Int.reduceNeg, Int.reduceAdd, Int.reduceSub, Int.reduceMul, ↓reduceIte, Int.reduceBEq, Int.reduceBNe, length_pw, hget_pw0, hget_pw, hset_pw0, hset_pw]
      refine within_c r 1 3 (by omega) (by omega) _ (hp.pw _).app _ fun s5 v hv1 hv2 => ?_
      rw [pw_pwa hr]
      have hv := hnext v (by omega)
      have hcv := hch v
      clear hnext hch
      by_cases hvl : v = tg l f
      · simp -implicitDefEqProofs (maxSteps := 2000000) (disch := omega) only [go_sem, reduceCtorEq, Nat.reduceAdd, Nat.reduceSub, Nat.reduceMul, Nat.reduceLT, Nat.reduceLeDiff, Nat.reduceEqDiff, Nat.reduceBEq, Int.reduceToNat, Int.reduceLT, Int.reduceLE, Int.reduceEq, Int.reduceNeg, Int.reduceAdd, Int.reduceSub, Int.reduceMul, ↓reduceIte, Int.reduceBEq, Int.reduceBNe, length_pw, hget_pw0, hget_pw, hset_pw0, hset_pw, hSf]
        exact (ih (f + 1, S, n) _ (by simp only; omega) ⟨⟨s5, rfl⟩, by simp only; omega, hS, hSb, by simp only; omega, hstay⟩).castS rfl (by simp [upd, ins, subF, lookA])
      · rw [if_pos ⟨by omega, hvl⟩] at hcv
        simp -implicitDefEqProofs (maxSteps := 2000000) (disch := omega) only [go_sem, reduceCtorEq, Nat.reduceAdd, Nat.reduceSub, Nat.reduceMul, Nat.reduceLT, Nat.reduceLeDiff, Nat.reduceEqDiff, Nat.reduceBEq, Int.reduceToNat, Int.reduceLT, Int.reduceLE, Int.reduceEq, Int.reduceNeg, Int.reduceAdd, Int.reduceSub, Int.reduceMul, ↓reduceIte, Int.reduceBEq, Int.reduceBNe, length_pw, hget_pw0, hget_pw, hset_pw0, hset_pw, hSf]
        exact (ih (f + 1, S.set f v, n + 1) _ (by simp only; omega) ⟨⟨s5, rfl⟩, by simp only; omega, hv.1, hv.2.1, by simp only; omega, hv.2.2⟩).castS (by simp [List.map_set]) (by simp [upd, ins, subF, lookA])
    · simp -implicitDefEqProofs (maxSteps := 2000000) (disch := omega) only [go_sem, reduceCtorEq, Nat.reduceAdd, Nat.reduceSub, Nat.reduceMul, Nat.reduceLT, Nat.reduceLeDiff, Nat.reduceEqDiff, Nat.reduceBEq, Int.reduceToNat, Int.reduceLT, Int.reduceLE, Int.reduceEq, Int.reduceNeg, Int.reduceAdd, Int.reduceSub, Int.reduceMul, ↓reduceIte, Int.reduceBEq, Int.reduceBNe, length_pw, hget_pw0, hget_pw, hset_pw0, hset_pw]
      exact (ih (f + 1, S, n) _ (by simp only; omega) ⟨⟨s4, rfl⟩, by simp only; omega, hS, hSb, by simp only; omega, hstay⟩).castS rfl (by simp [upd, ins, subF, lookA])
  · rintro hO ⟨f, S, n⟩ τ ⟨⟨s3, rfl⟩, hf, hS, hSb, hn, hSl⟩ h0
    simp only at hf hS hSb hn hSl h0
    have hcb : changedN l S ≤ 4 := by
      have : changedN l S ≤ S.length := Nat.le_trans (List.length_filter_le _ _) (by simp)
      omega
    have hn4 : 0 ≤ n ∧ n ≤ 4 := by omega
    clear hSl
    refine ARun.freezeK (σ.length + 4) 0 (r := σ.length + 3) (n := l.length) (sz := 1) (xs := S.map (.int .i64)) (cs := [.vec (σ.length + 3) l.length, .str ByteArray.empty, .int .i64 0]) (by rw [hget_pw]; rfl) rfl (by rw [hget_pw]; rfl) (by simp [hS]) ?_
    simp only [hset_pw, List.set_cons_succ, List.set_cons_zero]
    refine ev_sound (Tryd.envOK 122 Tryd.ord13 fs6 fs6_ok) (n := 100000) hO ?_
    simp -implicitDefEqProofs (maxSteps := 2000000) (disch := omega) only [go_sem, reduceCtorEq, Nat.reduceAdd, Nat.reduceSub, Nat.reduceMul, Nat.reduceLT, Nat.reduceLeDiff, Nat.reduceEqDiff, Nat.reduceBEq, Int.reduceToNat, Int.reduceLT, Int.reduceLE, Int.reduceEq, Int.reduceNeg, Int.reduceAdd, Int.reduceSub, Int.reduceMul, ↓reduceIte, Int.reduceBEq, Int.reduceBNe, length_pw, hget_pw0, hget_pw, hset_pw0, hset_pw]
    refine of_c r [0, 0, 1] .full (by simp) _ (hp.pw _).app _ fun s4 d hd => ?_
    rw [pw_pwa hr]
    have hd2 : 0 ≤ d ∧ d ≤ 1 := by simp at hd; omega
    clear hd
    simp -implicitDefEqProofs (maxSteps := 2000000) (disch := omega) only [go_sem, reduceCtorEq, Nat.reduceAdd, Nat.reduceSub, Nat.reduceMul, Nat.reduceLT, Nat.reduceLeDiff, Nat.reduceEqDiff, Nat.reduceBEq, Int.reduceToNat, Int.reduceLT, Int.reduceLE, Int.reduceEq, Int.reduceNeg, Int.reduceAdd, Int.reduceSub, Int.reduceMul, ↓reduceIte, Int.reduceBEq, Int.reduceBNe, length_pw, hget_pw0, hget_pw, hset_pw0, hset_pw]
    generalize hchd : (if n + d < 4 then n + d else 4) = ch
    have hch2 : n ≤ ch ∧ 0 ≤ ch ∧ ch ≤ 4 := by split at hchd <;> omega
    clear hchd hd2
    refine odds_c r 2 3 (by omega) (by omega) _ (hp.pw _).app _ fun s5 b => ?_
    rw [pw_pwa hr]
    have hisv : isv S = .list .no 1 (S.map (.int .i64)) := rfl
    have hOk : ∀ P, okPlate P → (P.size = 0 ∨ P.size = 4) → OkO c ⟨S, P, ch⟩ := fun P h1 h2 => ⟨⟨by simp only; omega, hSb⟩, h1, h2, by simp only; omega⟩
    cases b
    · simp -implicitDefEqProofs (maxSteps := 2000000) (disch := omega) only [go_sem, reduceCtorEq, Nat.reduceAdd, Nat.reduceSub, Nat.reduceMul, Nat.reduceLT, Nat.reduceLeDiff, Nat.reduceEqDiff, Nat.reduceBEq, Int.reduceToNat, Int.reduceLT, Int.reduceLE, Int.reduceEq, Int.reduceNeg, Int.reduceAdd, Int.reduceSub, Int.reduceMul, ↓reduceIte, Int.reduceBEq, Int.reduceBNe, length_pw, hget_pw0, hget_pw, hset_pw0, hset_pw, hid, hmav]
      have hq := hPre2 ⟨S, ByteArray.empty, ch⟩ n (hOk _ ⟨by decide, by decide⟩ (.inl rfl)) (by simpa using hn) hch2.1 (fits_empty hnn)
      refine ⟨.tup [Old.av ⟨S, ByteArray.empty, ch⟩, isv [(i : Int), M.first + k], .int .i64 n], wk_weak ?_, hq _ _⟩
      simp [wk, wkL, wk1, wk0, Old.av, isv]
    · simp -implicitDefEqProofs (maxSteps := 2000000) (disch := omega) only [go_sem, reduceCtorEq, Nat.reduceAdd, Nat.reduceSub, Nat.reduceMul, Nat.reduceLT, Nat.reduceLeDiff, Nat.reduceEqDiff, Nat.reduceBEq, Int.reduceToNat, Int.reduceLT, Int.reduceLE, Int.reduceEq, Int.reduceNeg, Int.reduceAdd, Int.reduceSub, Int.reduceMul, ↓reduceIte, Int.reduceBEq, Int.reduceBNe, length_pw, hget_pw0, hget_pw, hset_pw0, hset_pw, hkn, Rng.av]
      refine inner_c r x hnn _ (hp.pw _).app _ fun s6 num junk6 hnu1 hnu2 => ?_
      rw [pw_pwa hr]
      have hsz := itoaS_size (n := num) (by omega) (by omega)
      have hdg : (itoaS (10000 + num)).extract 1 5 = dg4 num := rfl
      have hdz := dg4_size (n := num) (by omega) (by omega)
      simp -implicitDefEqProofs (maxSteps := 2000000) (disch := omega) only [go_sem, reduceCtorEq, Nat.reduceAdd, Nat.reduceSub, Nat.reduceMul, Nat.reduceLT, Nat.reduceLeDiff, Nat.reduceEqDiff, Nat.reduceBEq, Int.reduceToNat, Int.reduceLT, Int.reduceLE, Int.reduceEq, Int.reduceNeg, Int.reduceAdd, Int.reduceSub, Int.reduceMul, ↓reduceIte, Int.reduceBEq, Int.reduceBNe, length_pw, hget_pw0, hget_pw, hset_pw0, hset_pw, hsz, hdg]
      refine ARun.loopG (Tryd.envOK 122 Tryd.ord13 fs6 fs6_ok) (α := Nat × ByteArray) (fun a => 4 - a.1) (fun a τ => (∃ s j, τ = pw σ r s ++ (.cells [.int .i64 c.features, .list .no 3 (c.models.map Model.av)] :: .cells [.list .full 0 [], .str ByteArray.empty, .int .i64 0] :: .cells [.int .i64 M.first, .list .no 1 (M.looks.map isv), .list .no 2 (M.nums.map Rng.av)] :: .dead :: .cells [.list .no 1 (S.map (.int .i64)), .str a.2, .int .i64 ch] :: j)) ∧ a.1 ≤ 4 ∧ PlP num a.2 a.1) (fun a => [(15, .int .i64 (a.1 : Int))]) (0, ByteArray.empty) (by kernel_rfl) (by kernel_rfl) (by simp [upd, ins, subF, lookA]) ⟨⟨s6, _, rfl⟩, by simp, PlP.nil⟩ ?_ ?_
      · rintro K Q' hK ⟨f, P⟩ τ ⟨⟨s7, j, rfl⟩, hf, hP⟩ hlt ih
        simp only at hf hP hlt ih
        have hPz := hP.size
        obtain ⟨bt, hb1, hb2, hb3⟩ := digit_ok (n := num) (by omega) (by omega) (f := f) (by omega)
        have hex : ((dg4 num).extract f (f + 1)).size = 1 := by
          show ((dg4 num).extract f (f + 1)).data.size = 1
          rw [← Array.length_toList, hb1]; rfl
        have hq1 : ({ data := #[63] } : ByteArray).size = 1 := rfl
        clear hPre2 hll hOk hnn hkn
        simp -implicitDefEqProofs (maxSteps := 2000000) (disch := omega) only [go_sem, reduceCtorEq, Nat.reduceAdd, Nat.reduceSub, Nat.reduceMul, Nat.reduceLT, Nat.reduceLeDiff, Nat.reduceEqDiff, Nat.reduceBEq, Int.reduceToNat, Int.reduceLT, Int.reduceLE, Int.reduceEq, Int.reduceNeg, Int.reduceAdd, Int.reduceSub, Int.reduceMul, ↓reduceIte, Int.reduceBEq, Int.reduceBNe, length_pw, hget_pw0, hget_pw, hset_pw0, hset_pw, hdz]
        refine odds_c r 1 2 (by omega) (by omega) _ (hp.pw _).app _ fun s8 b => ?_
        rw [pw_pwa hr]
        cases b
        · have ht : ((f : Int) + 1).toNat = f + 1 := by omega
          simp -implicitDefEqProofs (maxSteps := 2000000) (disch := omega) only [go_sem, reduceCtorEq, Nat.reduceAdd, Nat.reduceSub, Nat.reduceMul, Nat.reduceLT, Nat.reduceLeDiff, Nat.reduceEqDiff, Nat.reduceBEq, Int.reduceToNat, Int.reduceLT, Int.reduceLE, Int.reduceEq, Int.reduceNeg, Int.reduceAdd, Int.reduceSub, Int.reduceMul, ↓reduceIte, Int.reduceBEq, Int.reduceBNe, length_pw, hget_pw0, hget_pw, hset_pw0, hset_pw, hdz, hPz, hex, ht]
          exact (ih (f + 1, P ++ (dg4 num).extract f (f + 1)) _ (by simp only; omega) ⟨⟨s8, j, rfl⟩, by simp only; omega, hP.app hb1 hb2 hb3⟩).castS rfl (by simp [upd, ins, subF, lookA])
        · simp -implicitDefEqProofs (maxSteps := 2000000) (disch := omega) only [go_sem, reduceCtorEq, Nat.reduceAdd, Nat.reduceSub, Nat.reduceMul, Nat.reduceLT, Nat.reduceLeDiff, Nat.reduceEqDiff, Nat.reduceBEq, Int.reduceToNat, Int.reduceLT, Int.reduceLE, Int.reduceEq, Int.reduceNeg, Int.reduceAdd, Int.reduceSub, Int.reduceMul, ↓reduceIte, Int.reduceBEq, Int.reduceBNe, length_pw, hget_pw0, hget_pw, hset_pw0, hset_pw, hdz, hPz, hq1]
          exact (ih (f + 1, P ++ { data := #[63] }) _ (by simp only; omega) ⟨⟨s8, j, rfl⟩, by simp only; omega, hP.app (b := 63) rfl rfl rfl⟩).castS rfl (by simp [upd, ins, subF, lookA])
      · rintro ⟨f, P⟩ τ ⟨⟨s7, j, rfl⟩, hf, hP⟩ h04
        simp only at hf hP h04
        have hf4 : f = 4 := by omega
        subst hf4
        simp -implicitDefEqProofs (maxSteps := 2000000) (disch := omega) only [go_sem, reduceCtorEq, Nat.reduceAdd, Nat.reduceSub, Nat.reduceMul, Nat.reduceLT, Nat.reduceLeDiff, Nat.reduceEqDiff, Nat.reduceBEq, Int.reduceToNat, Int.reduceLT, Int.reduceLE, Int.reduceEq, Int.reduceNeg, Int.reduceAdd, Int.reduceSub, Int.reduceMul, ↓reduceIte, Int.reduceBEq, Int.reduceBNe, length_pw, hget_pw0, hget_pw, hset_pw0, hset_pw, hdz]
        have hq := hPre2 ⟨S, P, ch⟩ n (hOk _ hP.okPl (.inr hP.size)) hn hch2.1 (fits_of hnu1 hnu2 hP.reads)
        refine ⟨.tup [Old.av ⟨S, P, ch⟩, isv [(i : Int), M.first + k], .int .i64 n], wk_weak ?_, hq _ _⟩
        simp [wk, wkL, wk1, wk0, Old.av, isv]
end Go.Proofs
