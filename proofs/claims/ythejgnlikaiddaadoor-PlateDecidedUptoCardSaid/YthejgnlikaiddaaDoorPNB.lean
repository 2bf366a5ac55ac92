/- Texts of a proof: lemmas. -/
import Derived.Test.YthejgnlikaiddaaDoorPNA
import Derived.Test.YthejgnlikaiddaaDoorMuLm
set_option linter.unusedSimpArgs false
set_option linter.unusedVariables false
set_option maxRecDepth 100000
namespace Go.Proofs
open Go Go.Mu

/-! Decides: the closure that remembers what it found. -/
def mapN (m : List (Int × Nat)) : List (AV × AV) := m.map fun p => (AV.int .u64 p.1, AV.int .i64 (p.2 : Int))
theorem findA_mapN (k : Int) : ∀ (m : List (Int × Nat)) (i : Nat), findA (.int .u64 k) (mapN m) i = some ((fIdx k m i).map fun q => (q.1, AV.int .i64 (q.2 : Int)))
  | [], i => rfl
  | (k', v) :: m, i => by
    have ih := findA_mapN k m (i + 1)
    unfold mapN at ih ⊢
    simp only [List.map_cons, findA, keyEq, if_true, fIdx]
    by_cases h : k = k'
    · subst h; simp
    · have : (k == k') = false := by simpa using h
      rw [this, if_neg h]
      exact ih
theorem updN {r : Nat} {m : List (Int × Nat)} {k : Int} {v : Nat} {σ : List AObj} : updR r (mapN m) (.int .u64 k) (.int .i64 (v : Int)) σ (findA (.int .u64 k) (mapN m) 0) = some (.tup [], hset σ r (.map (mapN (mset m k v)))) := by
  rw [findA_mapN]
  unfold mset mapN
  cases fIdx k m 0 with
  | none => simp [updR]
  | some q => simp [updR, List.map_set]
theorem lookN {m : List (Int × Nat)} {k : Int} {σ : List AObj} : lookR true (.int .i64 0) σ (findA (.int .u64 k) (mapN m) 0) = some (match mget m k with
      | some v => .tup [.int .i64 (v : Int), .bool true]
      | none => .tup [.int .i64 0, .bool false], σ) := by
  rw [findA_mapN]
  unfold mget
  cases fIdx k m 0 with
  | none => rfl
  | some q => rfl
attribute [go_sem] updN lookN
attribute [go_sem] evOpsM_plain evOpsM_guard evOpsM_len nextN_some nextN_none guardM_tt guardM_ff guardM_tf guardM_ft guardM_tup guardL_tt guardL_ff guardL_tf guardL_ft guardL_tup mlenA_len mlenO_map mlenH_map
/-- Which models are there, as a number's bits. -/
def modS (now : Nat) (b : Nat) (q : Made × Nat) : Nat := if now.testBit q.2 then b ||| 2 ^ q.1.model.toNat else b
def modM (now : Nat) (L : List Made) : Nat := L.zipIdx.foldl (modS now) 0
theorem modM_inv {L : List Made} {now : Nat} (hm : ∀ m ∈ L, 0 ≤ m.model ∧ m.model < 4) : ∀ i, i ≤ L.length → (L.zipIdx.take i).foldl (modS now) 0 < 16 ∧ ∀ j : Nat, ((L.zipIdx.take i).foldl (modS now) 0).testBit j = true ↔ ∃ k, ∃ h : k < L.length, k < i ∧ now.testBit k = true ∧ L[k].model = j
  | 0, _ => ⟨by simp, fun j => by simp⟩
  | i + 1, hi => by
    have hz : i < L.zipIdx.length := by rw [List.length_zipIdx]; omega
    have hzi : L.zipIdx[i] = (L[i], i) := by simp
    obtain ⟨ih1, ih2⟩ := modM_inv (now := now) hm i (by omega)
    rw [foldl_take _ _ _ _ hz, hzi]
    generalize (L.zipIdx.take i).foldl (modS now) 0 = b at ih1 ih2 ⊢
    have hmi := hm _ (List.getElem_mem (show i < L.length by omega))
    unfold modS
    simp only
    cases hb : now.testBit i
    · rw [if_neg (by simp)]
      refine ⟨ih1, fun j => ?_⟩
      rw [ih2]
      constructor
      · rintro ⟨k, h, h1, h2, h3⟩; exact ⟨k, h, by omega, h2, h3⟩
      · rintro ⟨k, h, h1, h2, h3⟩
        by_cases e : k = i
        · subst e; rw [hb] at h2; cases h2
        · exact ⟨k, h, by omega, h2, h3⟩
    · rw [if_pos rfl]
      refine ⟨Nat.or_lt_two_pow (n := 4) ih1 (Nat.pow_lt_pow_right (by omega) (by omega)), fun j => ?_⟩
      rw [Nat.testBit_or, Nat.testBit_two_pow, Bool.or_eq_true, ih2, decide_eq_true_eq]
      constructor
      · rintro (⟨k, h, h1, h2, h3⟩ | h)
        · exact ⟨k, h, by omega, h2, h3⟩
        · exact ⟨i, by omega, by omega, hb, by omega⟩
      · rintro ⟨k, h, h1, h2, h3⟩
        by_cases e : k = i
        · subst e; exact .inr (by omega)
        · exact .inl ⟨k, h, by omega, h2, h3⟩
theorem popN_testBit {x n : Nat} (h : x < 2 ^ n) : popN x = cntN x.testBit n := by
  rw [← popN_bits]
  congr 1
  refine Nat.eq_of_testBit_eq fun i => ?_
  rw [bitsOf_test]
  by_cases hi : i < n
  · simp [hi]
  · have : x.testBit i = false := Nat.testBit_lt_two_pow (Nat.lt_of_lt_of_le h (Nat.pow_le_pow_right (by omega) (by omega)))
    simp [hi, this]
theorem modM_pop {L : List Made} {now : Nat} (hm : ∀ m ∈ L, 0 ≤ m.model ∧ m.model < 4) : popN (modM now L) = modN (selL L now) := by
  obtain ⟨h1, h2⟩ := modM_inv (now := now) hm L.length (Nat.le_refl _)
  have e : L.zipIdx.take L.length = L.zipIdx := List.take_of_length_le (Nat.le_of_eq List.length_zipIdx)
  rw [e] at h1 h2
  change modM now L < 16 at h1
  change ∀ j, (modM now L).testBit j = true ↔ _ at h2
  rw [popN_testBit (n := 4) h1]
  unfold modN cntN
  rw [← List.length_map (f := fun k : Nat => (k : Int))]
  refine nodup_len ?_ (sorted_nodup valuesZ_lt) fun x => ?_
  · refine sorted_nodup (List.pairwise_map.2 ((List.Pairwise.filter _ List.pairwise_lt_range).imp ?_))
    intro a b h; omega
  · rw [valuesZ_mem, List.mem_map]
    constructor
    · rintro ⟨j, hj, rfl⟩
      obtain ⟨_, hj⟩ := List.mem_filter.1 hj
      obtain ⟨k, h, _, hb, e⟩ := (h2 j).1 hj
      exact ⟨L[k], selL_mem.2 ⟨k, h, hb, rfl⟩, e⟩
    · rintro ⟨m, hmm, rfl⟩
      obtain ⟨k, h, hb, rfl⟩ := selL_mem.1 hmm
      have := hm _ (List.getElem_mem h)
      refine ⟨L[k].model.toNat, List.mem_filter.2 ⟨List.mem_range.2 (by omega), (h2 _).2 ⟨k, h, h, hb, by omega⟩⟩, by omega⟩
def MemoOK (L : List Made) (F : List Int) (m : List (Int × Nat)) : Prop := ∀ p ∈ m, ∃ now : Nat, p.1 = now ∧ p.2 = needL F (selL L now)
/-- What the closure finds in its variables. -/
structure DH (L : List Made) (F : List Int) (a1 a2 a3 a4 mr : Nat) (τ : List AObj) : Prop where
  h1 : hget τ a1 = some (.cells [.map mr])
  h2 : hget τ a2 = some (.cells [.list .no 8 (L.map Made.av)])
  h3 : hget τ a3 = some (.cells [isv F])
  h4 : hget τ a4 = some (.cells [.fn (.func 72) [] [.ptr a1 0, .ptr a2 0, .ptr a3 0, .ptr a4 0]])
  hm : ∃ m, hget τ mr = some (.map (mapN m)) ∧ MemoOK L F m
/-- All but the memory is as it was. -/
def Sm (mr : Nat) (τ τ' : List AObj) : Prop := τ.length ≤ τ'.length ∧ ∀ k, k < τ.length → k ≠ mr → hget τ' k = hget τ k
theorem Sm.refl {mr : Nat} {τ : List AObj} : Sm mr τ τ := ⟨Nat.le_refl _, fun _ _ _ => rfl⟩
theorem Sm.trans {mr : Nat} {a b c : List AObj} (h : Sm mr a b) (g : Sm mr b c) : Sm mr a c := ⟨Nat.le_trans h.1 g.1, fun k h1 h2 => (g.2 k (by have := h.1; omega) h2).trans (h.2 k h1 h2)⟩
theorem Sm.app {mr : Nat} {a b l : List AObj} (h : Sm mr a b) : Sm mr a (b ++ l) := ⟨by have := h.1; simp; omega, fun k h1 h2 => by rw [hget_app (by have := h.1; omega)]; exact h.2 k h1 h2⟩
theorem Sm.set {mr r : Nat} {a b : List AObj} {o : AObj} (h : Sm mr a b) (hr : a.length ≤ r ∨ r = mr) : Sm mr a (hset b r o) := ⟨by rw [length_hset]; exact h.1, fun k h1 h2 => by
  rw [hget_ne (by omega)]; exact h.2 k h1 h2⟩
theorem DH.ne {L : List Made} {F : List Int} {a1 a2 a3 a4 mr : Nat} {τ : List AObj} (h : DH L F a1 a2 a3 a4 mr τ) : a1 ≠ mr ∧ a2 ≠ mr ∧ a3 ≠ mr ∧ a4 ≠ mr ∧ mr < τ.length ∧ a1 < τ.length ∧ a2 < τ.length ∧ a3 < τ.length ∧ a4 < τ.length := by
  obtain ⟨m, hm, _⟩ := h.hm
  refine ⟨?_, ?_, ?_, ?_, hget_lt hm, hget_lt h.h1, hget_lt h.h2, hget_lt h.h3, hget_lt h.h4⟩
  · rintro rfl; rw [h.h1] at hm; cases hm
  · rintro rfl; rw [h.h2] at hm; cases hm
  · rintro rfl; rw [h.h3] at hm; cases hm
  · rintro rfl; rw [h.h4] at hm; cases hm
theorem DH.sm {L : List Made} {F : List Int} {a1 a2 a3 a4 mr : Nat} {τ τ' : List AObj} (h : DH L F a1 a2 a3 a4 mr τ) (hs : Sm mr τ τ') (hm : ∃ m, hget τ' mr = some (.map (mapN m)) ∧ MemoOK L F m) : DH L F a1 a2 a3 a4 mr τ' := by
  obtain ⟨n1, n2, n3, n4, _, l1, l2, l3, l4⟩ := h.ne
  exact ⟨(hs.2 _ l1 n1).trans h.h1, (hs.2 _ l2 n2).trans h.h2, (hs.2 _ l3 n3).trans h.h3, (hs.2 _ l4 n4).trans h.h4, hm⟩
theorem DH.app {L : List Made} {F : List Int} {a1 a2 a3 a4 mr : Nat} {τ l : List AObj} (h : DH L F a1 a2 a3 a4 mr τ) : DH L F a1 a2 a3 a4 mr (τ ++ l) := by
  obtain ⟨m, hm, ho⟩ := h.hm
  exact h.sm Sm.refl.app ⟨m, by rw [hget_app (hget_lt hm)]; exact hm, ho⟩
theorem DH.set {L : List Made} {F : List Int} {a1 a2 a3 a4 mr r : Nat} {τ : List AObj} {o : AObj} (h : DH L F a1 a2 a3 a4 mr τ) (h1 : r ≠ a1) (h2 : r ≠ a2) (h3 : r ≠ a3) (h4 : r ≠ a4) (h5 : r ≠ mr) : DH L F a1 a2 a3 a4 mr (hset τ r o) := by
  obtain ⟨m, hm, ho⟩ := h.hm
  exact ⟨by rw [hget_ne h1]; exact h.h1, by rw [hget_ne h2]; exact h.h2, by rw [hget_ne h3]; exact h.h3, by rw [hget_ne h4]; exact h.h4, m, by rw [hget_ne h5]; exact hm, ho⟩
theorem max_take {g : Int × Nat → Nat} {m : List (Int × Nat)} {n : Nat} (h : ∀ i, (h : i < m.length) → g m[i] ≤ n) (h2 : n = 0 ∨ ∃ p ∈ m, g p = n) : (m.map g).foldl max 0 = n := by
  apply Nat.le_antisymm
  · rcases foldl_max_mem (l := m.map g) (b := 0) with h1 | h1
    · rw [h1]; exact Nat.zero_le _
    · obtain ⟨p, hp, he⟩ := List.mem_map.1 h1
      obtain ⟨i, hi, rfl⟩ := List.mem_iff_getElem.1 hp
      rw [← he]; exact h i hi
  · rcases h2 with rfl | ⟨p, hp, he⟩
    · exact Nat.zero_le _
    · rw [← he]; exact foldl_max_le (.inl (List.mem_map.2 ⟨p, hp, rfl⟩))
set_option maxHeartbeats 400000000 in
theorem needs_c {L : List Made} {F : List Int} {a1 a2 a3 a4 mr : Nat} (hL : L.length ≤ 16) (hmo : ∀ m ∈ L, 0 ≤ m.model ∧ m.model < 4) (hF : F.length ≤ 4) (hFm : ∀ f ∈ F, 0 ≤ f ∧ f < 4) :
    ∀ n now, now < 2 ^ L.length → selL L now ≠ [] → (selL L now).length ≤ n → ∀ σ, DH L F a1 a2 a3 a4 mr σ → ∀ Q : AV → List AObj → Prop, (∀ σ', Sm mr σ σ' → DH L F a1 a2 a3 a4 mr σ' → Q (.int .i64 (needL F (selL L now) : Int)) σ') →
      ACalls Tryd.prog 72 [.int .u64 (now : Int), .ptr a1 0, .ptr a2 0, .ptr a3 0, .ptr a4 0] σ Q := by
  intro n
  induction n with
  | zero =>
    intro now _ hne h0
    exact absurd (List.length_eq_zero_iff.1 (by omega)) hne
  | succ n IH =>
  intro now hnow hne hlen σ hD Q hQ
  have hnw : now < 65536 := Nat.lt_of_lt_of_le hnow (Nat.pow_le_pow_right (n := 2) (by omega) hL)
  obtain ⟨m0, hm0, hmok⟩ := hD.hm
  have d1 := hD.h1
  have d2 := hD.h2
  have d3 := hD.h3
  have d4 := hD.h4
  refine ACalls.of_ev (E := Tryd.E 82 (fun _ => ([], [])) fs16) (Tryd.envOK 82 (fun _ => ([], [])) fs16 fs16_ok) Tryd.kp72 Tryd.func72 rfl (by kernel_rfl) (by simp [Tryd.E]) (Callable.of Tryd.func72 (by kernel_rfl) (by kernel_rfl)) (by kernel_rfl) ?_
  cases hg : mget m0 (now : Int) with
  | some v =>
    obtain ⟨now', e1, e2⟩ := hmok _ (mget_mem hg)
    simp only at e1 e2
    have e1' : now' = now := by omega
    subst e1'
    subst e2
    simp -implicitDefEqProofs (maxSteps := 2000000) (disch := omega) only [go_sem, reduceCtorEq, Nat.reduceAdd, Nat.reduceSub, Nat.reduceMul, Nat.reduceLT, Nat.reduceLeDiff, Nat.reduceEqDiff, Nat.reduceBEq, Int.reduceToNat, Int.reduceLT, Int.reduceLE, Int.reduceEq, Int.reduceNeg, Int.reduceAdd, Int.reduceSub, Int.reduceMul, ↓reduceIte, Int.reduceBEq, Int.reduceBNe, d1, hm0, hg]
    exact hQ σ Sm.refl hD
  | none =>
  simp -implicitDefEqProofs (maxSteps := 2000000) (disch := omega) only [go_sem, reduceCtorEq, Nat.reduceAdd, Nat.reduceSub, Nat.reduceMul, Nat.reduceLT, Nat.reduceLeDiff, Nat.reduceEqDiff, Nat.reduceBEq, Int.reduceToNat, Int.reduceLT, Int.reduceLE, Int.reduceEq, Int.reduceNeg, Int.reduceAdd, Int.reduceSub, Int.reduceMul, ↓reduceIte, Int.reduceBEq, Int.reduceBNe, d1, d2, hm0, hg]
  have hlz : L.zipIdx.length = L.length := List.length_zipIdx
  refine ARun.forG (Tryd.envOK 82 (fun _ => ([], [])) fs16 fs16_ok) L.length (fun _ => True) (fun i => [(9, .int .u64 (((L.zipIdx.take i).foldl (modS now) 0 : Nat) : Int)), (29, .int .i64 i)]) (fun _ j => σ ++ j) [] (by kernel_rfl) (by kernel_rfl) (by simp) (by simp [upd, ins, subF, lookA]) trivial ?_ ?_
  · intro K Q' hK i j hi _ ih
    have hz : i < L.zipIdx.length := by omega
    have hzi : L.zipIdx[i] = (L[i], i) := by simp
    have hb := (modM_inv (now := now) hmo i (by omega)).1
    rw [foldl_take _ _ _ _ hz, hzi] at ih
    have hS : ∀ b, modS now b (L[i], i) = if now.testBit i then b ||| 2 ^ L[i].model.toNat else b := fun _ => rfl
    rw [hS] at ih
    generalize (L.zipIdx.take i).foldl (modS now) 0 = b at ih hb ⊢
    have hma : L[i].av = .agg [.int .i64 L[i].model, .int .i64 L[i].year, .int .i64 L[i].a, .int .i64 L[i].b, .int .i64 L[i].c, .int .i64 L[i].d, .int .i64 L[i].nums.lo, .int .i64 L[i].nums.hi] := rfl
    have hidx : idx (L.map Made.av) (i : Int) = some L[i].av := idx_nat hi
    have hmi := hmo _ (List.getElem_mem hi)
    generalize L[i] = m at ih hma hidx hmi
    clear hQ IH hmok hD hm0 d1 d2 d3 d4
    cases hb2 : now.testBit i
    · rw [hb2] at ih
      simp -implicitDefEqProofs (maxSteps := 2000000) (disch := omega) only [go_sem, reduceCtorEq, Nat.reduceAdd, Nat.reduceSub, Nat.reduceMul, Nat.reduceLT, Nat.reduceLeDiff, Nat.reduceEqDiff, Nat.reduceBEq, Int.reduceToNat, Int.reduceLT, Int.reduceLE, Int.reduceEq, Int.reduceNeg, Int.reduceAdd, Int.reduceSub, Int.reduceMul, ↓reduceIte, Int.reduceBEq, Int.reduceBNe, hidx, hma, hb2]
      exact (ih trivial (j ++ [.cells m.cells])).castS (by simp [Made.cells]) (by simp [upd, ins, subF, lookA])
    · rw [hb2] at ih
      simp -implicitDefEqProofs (maxSteps := 2000000) (disch := omega) only [go_sem, reduceCtorEq, Nat.reduceAdd, Nat.reduceSub, Nat.reduceMul, Nat.reduceLT, Nat.reduceLeDiff, Nat.reduceEqDiff, Nat.reduceBEq, Int.reduceToNat, Int.reduceLT, Int.reduceLE, Int.reduceEq, Int.reduceNeg, Int.reduceAdd, Int.reduceSub, Int.reduceMul, ↓reduceIte, Int.reduceBEq, Int.reduceBNe, hidx, hma, hb2]
      exact (ih trivial (j ++ [.cells m.cells])).castS (by simp [Made.cells]) (by simp [upd, ins, subF, lookA])
  · intro j _
    have hpop := modM_pop (now := now) hmo
    have hlt := (modM_inv (now := now) hmo L.length (Nat.le_refl _)).1
    have etk : L.zipIdx.take L.length = L.zipIdx := List.take_of_length_le (by omega)
    rw [etk] at hlt ⊢
    change (modM now L) < 16 at hlt
    rw [show L.zipIdx.foldl (modS now) 0 = modM now L from rfl]
    have hneed := needL_eq (F := F) hne
    generalize modM now L = b at hpop hlt ⊢
    generalize hT : selL L now = T at hpop hneed hne hlen hQ
    have hlk := fun f => looksG_len (L := L) (now := now) (f := f)
    rw [hT] at hlk
    clear hm0 hmok hg
    have hDj : DH L F a1 a2 a3 a4 mr (σ ++ j) := hD.app
    have hSj : Sm mr σ (σ ++ j) := Sm.refl.app
    generalize σ ++ j = τ0 at hDj hSj ⊢
    have e3 := hDj.h3
    have hisF : isv F = .list .no 1 (F.map (.int .i64)) := rfl
    rw [hisF] at e3
    refine' ARun.cutP (α := Nat) (fun b0 => b0 = if modN T = 1 then 0 else 5) (fun b0 => [(0, .int .u64 (now : Int)), (1, .ptr a1 0), (2, .ptr a2 0), (3, .ptr a3 0), (4, .ptr a4 0), (6, .int .i64 0), (12, .int .i64 (b0 : Int)), (45, .list .no 1 (F.map (.int .i64))), (46, .int .i64 (F.length : Int)), (47, .int .i64 0)]) (fun _ => τ0) (fun hG => ?way) ?rest
    case way =>
      by_cases hmn : modN T = 1
      · rw [hmn] at hpop
        simp -implicitDefEqProofs (maxSteps := 2000000) (disch := omega) only [go_sem, reduceCtorEq, Nat.reduceAdd, Nat.reduceSub, Nat.reduceMul, Nat.reduceLT, Nat.reduceLeDiff, Nat.reduceEqDiff, Nat.reduceBEq, Int.reduceToNat, Int.reduceLT, Int.reduceLE, Int.reduceEq, Int.reduceNeg, Int.reduceAdd, Int.reduceSub, Int.reduceMul, ↓reduceIte, Int.reduceBEq, Int.reduceBNe, hpop, e3]
        exact (hG 0 (by rw [if_pos hmn])).castS rfl (by simp [upd, ins, subF, lookA])
      · have hmn' : ¬ popN b = 1 := by omega
        simp -implicitDefEqProofs (maxSteps := 2000000) (disch := omega) only [go_sem, reduceCtorEq, Nat.reduceAdd, Nat.reduceSub, Nat.reduceMul, Nat.reduceLT, Nat.reduceLeDiff, Nat.reduceEqDiff, Nat.reduceBEq, Int.reduceToNat, Int.reduceLT, Int.reduceLE, Int.reduceEq, Int.reduceNeg, Int.reduceAdd, Int.reduceSub, Int.reduceMul, ↓reduceIte, Int.reduceBEq, Int.reduceBNe, hpop, e3]
        exact (hG 5 (by rw [if_neg hmn])).castS rfl (by simp [upd, ins, subF, lookA])
    case rest =>
    rintro b0 hb0
    rw [← hb0] at hneed
    have hb5 : b0 ≤ 5 := by rw [hb0]; split <;> omega
    clear hb0 hpop hlt e3
    refine ARun.countA F.length (fun i τ => Sm mr σ τ ∧ DH L F a1 a2 a3 a4 mr τ) (fun i => [(12, .int .i64 (((F.take i).foldl (needS (needL F) T) b0 : Nat) : Int)), (47, .int .i64 i)]) (by simp [upd, ins, subF, lookA]) ⟨hSj, hDj⟩ ?_ ?_
    · rintro i τ hi ⟨g1, g2⟩ ih
      have hfi := hFm _ (List.getElem_mem hi)
      have hidx : idx (F.map (AV.int .i64)) (i : Int) = some (.int .i64 F[i]) := idx_nat hi
      have hacc : (F.take i).foldl (needS (needL F) T) b0 ≤ 5 := by
        have : ∀ (G : List Int) b, b ≤ 5 → G.foldl (needS (needL F) T) b ≤ 5 := fun G => by
          intro b hb; exact needS_le (F := G) b hb
        exact this _ _ hb5
      rw [foldl_take _ _ _ _ hi] at ih
      generalize (F.take i).foldl (needS (needL F) T) b0 = acc at ih hacc ⊢
      generalize F[i] = f at hfi hidx ih
      have e2 := g2.h2
      have hlf := hlk f
      have hG := looksG (L := L) (now := now) (f := f)
      have hwm := worst_map (L := L) (now := now) (f := f) (g := needL F)
      have hpt := fun p (hp : p ∈ looksM now L f) => looksG_part (L := L) (now := now) (f := f) hp
      have hky := fun v => looksG_keys (L := L) (now := now) (f := f) (v := v)
      rw [hT] at hwm hpt hky
      refine ev_sound (Tryd.envOK 82 (fun _ => ([], [])) fs16 fs16_ok) (n := 12) (by kernel_rfl) ?_
      simp -implicitDefEqProofs (maxSteps := 2000000) (disch := omega) only [go_sem, reduceCtorEq, Nat.reduceAdd, Nat.reduceSub, Nat.reduceMul, Nat.reduceLT, Nat.reduceLeDiff, Nat.reduceEqDiff, Nat.reduceBEq, Int.reduceToNat, Int.reduceLT, Int.reduceLE, Int.reduceEq, Int.reduceNeg, Int.reduceAdd, Int.reduceSub, Int.reduceMul, ↓reduceIte, Int.reduceBEq, Int.reduceBNe, hidx, e2]
      refine looks_c now L f hnw hL hfi _ _ fun j2 => ?_
      simp -implicitDefEqProofs (maxSteps := 2000000) (disch := omega) only [go_sem, reduceCtorEq, Nat.reduceAdd, Nat.reduceSub, Nat.reduceMul, Nat.reduceLT, Nat.reduceLeDiff, Nat.reduceEqDiff, Nat.reduceBEq, Int.reduceToNat, Int.reduceLT, Int.reduceLE, Int.reduceEq, Int.reduceNeg, Int.reduceAdd, Int.reduceSub, Int.reduceMul, ↓reduceIte, Int.reduceBEq, Int.reduceBNe]
      change ARun _ _ _ _ _ _
      refine ARun.seq (ARun.regionM (Tryd.envOK 82 (fun _ => ([], [])) fs16 fs16_ok) 4 ?_)
      generalize looksM now L f = m at hlf hG hwm hpt hky ⊢
      have hml : (mapU m).length = m.length := by simp [mapU]
      have hmp : ∀ X, hget (τ ++ (.map (mapU m) :: X)) τ.length = some (.map (mapU m)) := fun X => by rw [hget_at0]; rfl
      have hns : needS (needL F) T acc f = if acc = 0 ∨ (valF f T).length = 1 then acc else min acc (worstF (needL F) T f + 1) := rfl
      by_cases hz : acc = 0
      · rw [hns, if_pos (.inl hz)] at ih
        subst hz
        simp -implicitDefEqProofs (maxSteps := 2000000) (disch := omega) only [go_sem, reduceCtorEq, Nat.reduceAdd, Nat.reduceSub, Nat.reduceMul, Nat.reduceLT, Nat.reduceLeDiff, Nat.reduceEqDiff, Nat.reduceBEq, Int.reduceToNat, Int.reduceLT, Int.reduceLE, Int.reduceEq, Int.reduceNeg, Int.reduceAdd, Int.reduceSub, Int.reduceMul, ↓reduceIte, Int.reduceBEq, Int.reduceBNe, hmp, hml]
        refine ev_sound (Tryd.envOK 82 (fun _ => ([], [])) fs16 fs16_ok) (n := 1000) (by kernel_rfl) ?_
        simp -implicitDefEqProofs (maxSteps := 2000000) (disch := omega) only [go_sem, reduceCtorEq, Nat.reduceAdd, Nat.reduceSub, Nat.reduceMul, Nat.reduceLT, Nat.reduceLeDiff, Nat.reduceEqDiff, Nat.reduceBEq, Int.reduceToNat, Int.reduceLT, Int.reduceLE, Int.reduceEq, Int.reduceNeg, Int.reduceAdd, Int.reduceSub, Int.reduceMul, ↓reduceIte, Int.reduceBEq, Int.reduceBNe, hmp, hml]
        exact (ih _ ⟨g1.app, g2.app⟩).castS rfl (by simp [upd, ins, subF, lookA])
      · by_cases h1 : m.length = 1
        · rw [hns, if_pos (.inr (by omega))] at ih
          simp -implicitDefEqProofs (maxSteps := 2000000) (disch := omega) only [go_sem, reduceCtorEq, Nat.reduceAdd, Nat.reduceSub, Nat.reduceMul, Nat.reduceLT, Nat.reduceLeDiff, Nat.reduceEqDiff, Nat.reduceBEq, Int.reduceToNat, Int.reduceLT, Int.reduceLE, Int.reduceEq, Int.reduceNeg, Int.reduceAdd, Int.reduceSub, Int.reduceMul, ↓reduceIte, Int.reduceBEq, Int.reduceBNe, hmp, hml, h1]
          refine ev_sound (Tryd.envOK 82 (fun _ => ([], [])) fs16 fs16_ok) (n := 1000) (by kernel_rfl) ?_
          simp -implicitDefEqProofs (maxSteps := 2000000) (disch := omega) only [go_sem, reduceCtorEq, Nat.reduceAdd, Nat.reduceSub, Nat.reduceMul, Nat.reduceLT, Nat.reduceLeDiff, Nat.reduceEqDiff, Nat.reduceBEq, Int.reduceToNat, Int.reduceLT, Int.reduceLE, Int.reduceEq, Int.reduceNeg, Int.reduceAdd, Int.reduceSub, Int.reduceMul, ↓reduceIte, Int.reduceBEq, Int.reduceBNe, hmp, hml, h1]
          exact (ih _ ⟨g1.app, g2.app⟩).castS rfl (by simp [upd, ins, subF, lookA])
        · rw [hns, if_neg (by omega)] at ih
          have hv1 : (valF f T).length ≠ 1 := by omega
          have hml16 : m.length ≤ 4294967296 := by
            have := valuesZ_len (num := fun m : Made => tg m.look f) (l := T)
            change (valF f T).length ≤ _ at this
            have h2 := selL_len (L := L) (now := now)
            rw [hT] at h2; omega
          simp -implicitDefEqProofs (maxSteps := 2000000) (disch := omega) only [go_sem, reduceCtorEq, Nat.reduceAdd, Nat.reduceSub, Nat.reduceMul, Nat.reduceLT, Nat.reduceLeDiff, Nat.reduceEqDiff, Nat.reduceBEq, Int.reduceToNat, Int.reduceLT, Int.reduceLE, Int.reduceEq, Int.reduceNeg, Int.reduceAdd, Int.reduceSub, Int.reduceMul, ↓reduceIte, Int.reduceBEq, Int.reduceBNe, hmp, hml]
          refine ev_sound (Tryd.envOK 82 (fun _ => ([], [])) fs16 fs16_ok) (n := 1000) (by kernel_rfl) ?_
          simp -implicitDefEqProofs (maxSteps := 2000000) (disch := omega) only [go_sem, reduceCtorEq, Nat.reduceAdd, Nat.reduceSub, Nat.reduceMul, Nat.reduceLT, Nat.reduceLeDiff, Nat.reduceEqDiff, Nat.reduceBEq, Int.reduceToNat, Int.reduceLT, Int.reduceLE, Int.reduceEq, Int.reduceNeg, Int.reduceAdd, Int.reduceSub, Int.reduceMul, ↓reduceIte, Int.reduceBEq, Int.reduceBNe, hmp, hml]
          have hit0 : hget (τ ++ (.map (mapU m) :: (j2 ++ [.iter (some τ.length) m.length []]))) (τ.length + (j2.length + 1)) = some (.iter (some τ.length) m.length []) := by rw [hget_at]; simp
          have hmp0 := hmp (j2 ++ [.iter (some τ.length) m.length []])
          have hit1 : τ.length + 1 ≤ τ.length + (j2.length + 1) := by omega
          have hS2 : Sm mr σ (τ ++ (.map (mapU m) :: (j2 ++ [.iter (some τ.length) m.length []]))) := g1.app
          have hD2 : DH L F a1 a2 a3 a4 mr (τ ++ (.map (mapU m) :: (j2 ++ [.iter (some τ.length) m.length []]))) := g2.app
          generalize τ ++ (.map (mapU m) :: (j2 ++ [.iter (some τ.length) m.length []])) = τ2 at hit0 hmp0 hS2 hD2 ⊢
          generalize τ.length + (j2.length + 1) = it at hit0 hit1 ⊢
          obtain ⟨q1, q2, q3, q4, q5, q6, q7, q8, q9⟩ := g2.ne
          have hgs := g1.1
          refine ARun.loopJ (Tryd.envOK 82 (fun _ => ([], [])) fs16 fs16_ok) (α := List Nat × Nat) (fun a => m.length - a.1.length) (fun a τ' => (hget τ' it = some (.iter (some τ.length) m.length a.1) ∧ hget τ' τ.length = some (.map (mapU m)) ∧ Sm mr σ τ' ∧ DH L F a1 a2 a3 a4 mr τ') ∧ a.1.Nodup ∧ (∀ i ∈ a.1, ∃ p, m[i]? = some p ∧ needL F (selL L p.2) ≤ a.2) ∧ (a.2 = 0 ∨ ∃ p ∈ m, needL F (selL L p.2) = a.2)) (fun a => [(16, .int .i64 (a.2 : Int))]) ([], 0) (by kernel_rfl) (by simp [upd, ins, subF, lookA]) ⟨⟨hit0, hmp0, hS2, hD2⟩, by simp, by simp, .inl rfl⟩ ?_
          clear hit0 hmp0 hS2 hD2
          rintro ⟨seen, w⟩ τ' ⟨⟨k1, k2, k3, k4⟩, j7, j8, j9⟩ ih3
          simp only at k1 k2 k3 k4 j7 j8 j9 ih3
          have hw5 : w ≤ 5 := by
            rcases j9 with rfl | ⟨p, hp, rfl⟩
            · omega
            · exact needL_le
          simp -implicitDefEqProofs (maxSteps := 2000000) (disch := omega) only [go_sem, reduceCtorEq, Nat.reduceAdd, Nat.reduceSub, Nat.reduceMul, Nat.reduceLT, Nat.reduceLeDiff, Nat.reduceEqDiff, Nat.reduceBEq, Int.reduceToNat, Int.reduceLT, Int.reduceLE, Int.reduceEq, Int.reduceNeg, Int.reduceAdd, Int.reduceSub, Int.reduceMul, ↓reduceIte, Int.reduceBEq, Int.reduceBNe]
          refine nextA_intro k1 k2 hml.symm (fun i2 k v hi2 hns => ?_) (fun hall => ?_)
          · obtain ⟨p, hp, hkv⟩ : ∃ p, m[i2]? = some p ∧ (AV.int .i64 p.1, AV.int .u64 (p.2 : Int)) = (k, v) := by simpa [mapU] using hi2
            simp only [Prod.mk.injEq] at hkv
            obtain ⟨rfl, rfl⟩ := hkv
            have hpm : p ∈ m := List.mem_of_getElem? hp
            have hgl : (seen ++ [i2]).getLast? = some i2 := by simp
            have hil := (List.getElem?_eq_some_iff.1 hp).1
            have hnd : (seen ++ [i2]).Nodup := by
              rw [List.nodup_append]
              exact ⟨j7, by simp, fun a ha b hb e => by simp at hb; subst hb; exact hns (e ▸ ha)⟩
            have hcard := nodup_lt hnd (n := m.length) fun i3 h3 => by
              rcases List.mem_append.1 h3 with h3 | h3
              · obtain ⟨p', hp', _⟩ := j8 i3 h3; exact (List.getElem?_eq_some_iff.1 hp').1
              · simp at h3; subst h3; exact hil
            rw [List.length_append, List.length_singleton] at hcard
            have hlt' : it < τ'.length := hget_lt k1
            have hk1 : hget (hset τ' it (.iter (some τ.length) m.length (seen ++ [i2]))) it = some (.iter (some τ.length) m.length (seen ++ [i2])) := hget_set k1 _
            have hk2 : hget (hset τ' it (.iter (some τ.length) m.length (seen ++ [i2]))) τ.length = some (.map (mapU m)) := by rw [hget_ne (by omega)]; exact k2
            have hD3 : DH L F a1 a2 a3 a4 mr (hset τ' it (.iter (some τ.length) m.length (seen ++ [i2]))) := k4.set (by omega) (by omega) (by omega) (by omega) (by omega)
            have hS3 : Sm mr σ (hset τ' it (.iter (some τ.length) m.length (seen ++ [i2]))) := k3.set (.inl (by omega))
            have hlt3 : τ.length < (hset τ' it (.iter (some τ.length) m.length (seen ++ [i2]))).length := by rw [length_hset]; exact hget_lt k2
            have hlt4 : it < (hset τ' it (.iter (some τ.length) m.length (seen ++ [i2]))).length := by rw [length_hset]; exact hlt'
            generalize hset τ' it (.iter (some τ.length) m.length (seen ++ [i2])) = τ3 at hk1 hk2 hD3 hS3 hlt3 hlt4 ⊢
            have e4 := hD3.h4
            have hpv : p.1 ∈ valF f T := (hky p.1).1 (List.mem_map.2 ⟨p, hpm, rfl⟩)
            have hpa := hpt p hpm
            have hpb := (hG.bit p hpm).1
            simp -implicitDefEqProofs (maxSteps := 2000000) (disch := omega) only [go_sem, reduceCtorEq, Nat.reduceAdd, Nat.reduceSub, Nat.reduceMul, Nat.reduceLT, Nat.reduceLeDiff, Nat.reduceEqDiff, Nat.reduceBEq, Int.reduceToNat, Int.reduceLT, Int.reduceLE, Int.reduceEq, Int.reduceNeg, Int.reduceAdd, Int.reduceSub, Int.reduceMul, ↓reduceIte, Int.reduceBEq, Int.reduceBNe, hk1, hk2, hgl, hi2, hml, e4]
            refine IH p.2 hpb (by rw [hpa]; exact partL_ne hpv) (by rw [hpa]; have := partL_lt hv1 hpv; omega) τ3 hD3 _ fun σ' hs hd => ?_
            have hle5 : needL F (selL L p.2) ≤ 5 := needL_le
            generalize hgq : needL F (selL L p.2) = gq at hle5 ⊢
            simp -implicitDefEqProofs (maxSteps := 2000000) (disch := omega) only [go_sem, reduceCtorEq, Nat.reduceAdd, Nat.reduceSub, Nat.reduceMul, Nat.reduceLT, Nat.reduceLeDiff, Nat.reduceEqDiff, Nat.reduceBEq, Int.reduceToNat, Int.reduceLT, Int.reduceLE, Int.reduceEq, Int.reduceNeg, Int.reduceAdd, Int.reduceSub, Int.reduceMul, ↓reduceIte, Int.reduceBEq, Int.reduceBNe]
            refine (ih3 (seen ++ [i2], max w gq) _ (by simp only [List.length_append, List.length_cons, List.length_nil]; omega) ⟨⟨by rw [hs.2 _ hlt4 (by omega)]; exact hk1, by rw [hs.2 _ hlt3 (by omega)]; exact hk2, hS3.trans hs, hd⟩, hnd, fun i3 h3 => ?_, ?_⟩).castS rfl ?_
            · rcases List.mem_append.1 h3 with h3 | h3
              · obtain ⟨p', hp', hle⟩ := j8 i3 h3; exact ⟨p', hp', by simp only; omega⟩
              · simp at h3; subst h3; exact ⟨p, hp, by simp only; omega⟩
            · simp only
              by_cases hc : w < gq
              · rw [Nat.max_eq_right (by omega)]; exact .inr ⟨p, hpm, hgq⟩
              · rw [Nat.max_eq_left (by omega)]; exact j9
            · have hmx : (if w < gq then (gq : Int) else (w : Int)) = ((max w gq : Nat) : Int) := by split <;> omega
              simp [upd, ins, subF, lookA, hmx]
          · have hfin : worstF (needL F) T f = w := by
              rw [← hwm]
              refine max_take (fun i3 hi3 => ?_) j9
              obtain ⟨p', hp', hle⟩ := j8 i3 (hall i3 (by rw [hml]; exact hi3))
              rw [List.getElem?_eq_getElem hi3] at hp'
              simp only [Option.some.injEq] at hp'
              subst hp'; exact hle
            rw [hfin] at ih
            simp -implicitDefEqProofs (maxSteps := 2000000) (disch := omega) only [go_sem, reduceCtorEq, Nat.reduceAdd, Nat.reduceSub, Nat.reduceMul, Nat.reduceLT, Nat.reduceLeDiff, Nat.reduceEqDiff, Nat.reduceBEq, Int.reduceToNat, Int.reduceLT, Int.reduceLE, Int.reduceEq, Int.reduceNeg, Int.reduceAdd, Int.reduceSub, Int.reduceMul, ↓reduceIte, Int.reduceBEq, Int.reduceBNe, minA, minL]
            have hmn : (if (w : Int) + 1 < (acc : Int) then (w : Int) + 1 else (acc : Int)) = ((min acc (w + 1) : Nat) : Int) := by split <;> omega
            exact (ih τ' ⟨k3, k4⟩).castS rfl (by simp [upd, ins, subF, lookA, hmn])
    · rintro τ ⟨g1, g2⟩
      rw [List.take_length, ← hneed]
      refine ev_sound (Tryd.envOK 82 (fun _ => ([], [])) fs16 fs16_ok) (n := 1000) (by kernel_rfl) ?_
      obtain ⟨m, hm, hmok⟩ := g2.hm
      have e1 := g2.h1
      obtain ⟨q1, q2, q3, q4, q5, q6, q7, q8, q9⟩ := g2.ne
      simp -implicitDefEqProofs (maxSteps := 2000000) (disch := omega) only [go_sem, reduceCtorEq, Nat.reduceAdd, Nat.reduceSub, Nat.reduceMul, Nat.reduceLT, Nat.reduceLeDiff, Nat.reduceEqDiff, Nat.reduceBEq, Int.reduceToNat, Int.reduceLT, Int.reduceLE, Int.reduceEq, Int.reduceNeg, Int.reduceAdd, Int.reduceSub, Int.reduceMul, ↓reduceIte, Int.reduceBEq, Int.reduceBNe, e1, hm]
      refine hQ _ (g1.set (.inr rfl)) ⟨by rw [hget_ne (by omega)]; exact e1, by rw [hget_ne (by omega)]; exact g2.h2, by rw [hget_ne (by omega)]; exact g2.h3, by rw [hget_ne (by omega)]; exact g2.h4, _, hget_set hm _, fun p hp => ?_⟩
      rcases mset_mem hp with rfl | hp
      · exact ⟨now, rfl, by rw [hT]⟩
      · exact hmok p hp
end Go.Proofs
