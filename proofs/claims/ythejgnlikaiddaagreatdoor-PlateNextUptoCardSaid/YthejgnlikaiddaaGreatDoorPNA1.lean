/- Texts of a proof: lemmas. -/
import Derived.Test.YthejgnlikaiddaaGreatDoorPL
import Derived.Test.YthejgnlikaiddaaGreatDoorPX1
import Derived.Test.YthejgnlikaiddaaGreatDoorMu3
set_option linter.unusedSimpArgs false
set_option linter.unusedVariables false
set_option maxRecDepth 100000
namespace Go.Proofs
open Go Go.Mu

theorem fIdx_succ {α : Type} {k : Int} : ∀ {m : List (Int × α)} {i : Nat}, fIdx k m (i + 1) = (fIdx k m i).map fun q => (q.1 + 1, q.2)
  | [], i => rfl
  | (k', v) :: m, i => by
    simp only [fIdx]
    by_cases h : k = k'
    · simp [h]
    · simp only [if_neg h]; exact fIdx_succ
theorem mset_cons {α : Type} {k k' : Int} {v v' : α} {m : List (Int × α)} : mset ((k', v') :: m) k v = if k = k' then (k, v) :: m else (k', v') :: mset m k v := by
  unfold mset
  simp only [fIdx]
  by_cases h : k = k'
  · simp [h]
  · rw [if_neg h, if_neg h, fIdx_succ]
    cases fIdx k m 0 with
    | none => simp
    | some q => simp
theorem mget_cons {α : Type} {k k' : Int} {v' : α} {m : List (Int × α)} : mget ((k', v') :: m) k = if k = k' then some v' else mget m k := by
  unfold mget
  simp only [fIdx]
  by_cases h : k = k'
  · simp [h]
  · rw [if_neg h, if_neg h, fIdx_succ]
    cases fIdx k m 0 with
    | none => rfl
    | some q => rfl
theorem mset_nil {α : Type} {k : Int} {v : α} : mset [] k v = [(k, v)] := rfl
theorem mget_none {α : Type} : ∀ {m : List (Int × α)} {k : Int}, mget m k = none ↔ k ∉ m.map (·.1)
  | [], k => by simp [mget, fIdx]
  | (k', v) :: m, k => by
    rw [mget_cons]
    by_cases h : k = k'
    · simp [h]
    · rw [if_neg h, mget_none]; simp [h]
theorem mset_keys {α : Type} : ∀ {m : List (Int × α)} {k x : Int} {v : α}, x ∈ (mset m k v).map (·.1) ↔ x = k ∨ x ∈ m.map (·.1)
  | [], k, x, v => by simp [mset_nil]
  | (k', v') :: m, k, x, v => by
    rw [mset_cons]
    by_cases h : k = k'
    · subst h; simp
    · rw [if_neg h, List.map_cons, List.mem_cons, mset_keys, List.map_cons, List.mem_cons]
      constructor
      · rintro (h | h | h)
        · exact .inr (.inl h)
        · exact .inl h
        · exact .inr (.inr h)
      · rintro (h | h | h)
        · exact .inr (.inl h)
        · exact .inl h
        · exact .inr (.inr h)
theorem mset_nodup {α : Type} : ∀ {m : List (Int × α)} {k : Int} {v : α}, (m.map (·.1)).Nodup → ((mset m k v).map (·.1)).Nodup
  | [], k, v, _ => by simp [mset_nil]
  | (k', v') :: m, k, v, h => by
    rw [List.map_cons, List.nodup_cons] at h
    rw [mset_cons]
    by_cases e : k = k'
    · subst e; rw [if_pos rfl, List.map_cons, List.nodup_cons]; exact h
    · rw [if_neg e, List.map_cons, List.nodup_cons]
      refine ⟨fun hm => ?_, mset_nodup h.2⟩
      rcases mset_keys.1 hm with hm | hm
      · exact e hm.symm
      · exact h.1 hm
theorem mset_other {α : Type} : ∀ {m : List (Int × α)} {k : Int} {v : α} {p : Int × α}, (m.map (·.1)).Nodup → p ∈ mset m k v → p = (k, v) ∨ p ∈ m ∧ p.1 ≠ k
  | [], k, v, p, _, hp => by simp [mset_nil] at hp; exact .inl hp
  | (k', v') :: m, k, v, p, h, hp => by
    rw [List.map_cons, List.nodup_cons] at h
    rw [mset_cons] at hp
    by_cases e : k = k'
    · subst e
      rw [if_pos rfl] at hp
      rcases List.mem_cons.1 hp with hp | hp
      · exact .inl hp
      · exact .inr ⟨List.mem_cons_of_mem _ hp, fun e => h.1 (by rw [← e]; exact List.mem_map.2 ⟨p, hp, rfl⟩)⟩
    · rw [if_neg e] at hp
      rcases List.mem_cons.1 hp with hp | hp
      · subst hp; exact .inr ⟨by simp, fun h => e h.symm⟩
      · rcases mset_other h.2 hp with h1 | ⟨h1, h2⟩
        · exact .inl h1
        · exact .inr ⟨List.mem_cons_of_mem _ h1, h2⟩
theorem popN_or {b i : Nat} (h : b < 2 ^ i) : popN (b ||| 2 ^ i) = popN b + 1 := by
  have e : b ||| 2 ^ i = b + 2 ^ i := by
    have := Nat.two_pow_add_eq_or_of_lt h 1
    rw [Nat.mul_one] at this
    rw [Nat.or_comm, ← this, Nat.add_comm]
  rw [e]; exact popN_add i b h
end Go.Proofs
set_option linter.unusedSimpArgs false
set_option linter.unusedVariables false
set_option maxRecDepth 100000
namespace Go.Proofs
open Go Go.Mu

/-! About how many features somebody has to find out: plain part. -/
def valF (f : Int) (T : List Made) : List Int := valuesZ (fun m : Made => tg m.look f) T
def partL (T : List Made) (f v : Int) : List Made := T.filter fun m => decide (tg m.look f = v)
def modN (T : List Made) : Nat := (valuesZ Made.model T).length
def worstF (g : List Made → Nat) (T : List Made) (f : Int) : Nat := ((valF f T).map fun v => g (partL T f v)).foldl max 0
def needS (g : List Made → Nat) (T : List Made) (b : Nat) (f : Int) : Nat := if b = 0 ∨ (valF f T).length = 1 then b else min b (worstF g T f + 1)
def needF : Nat → List Int → List Made → Nat
  | 0, _, _ => 0
  | n + 1, F, T => F.foldl (needS (needF n F) T) (if modN T = 1 then 0 else 5)
def needL (F : List Int) (T : List Made) : Nat := needF T.length F T
theorem valF_mem {f : Int} {T : List Made} {v : Int} : v ∈ valF f T ↔ ∃ m ∈ T, tg m.look f = v := valuesZ_mem
theorem partL_ne {T : List Made} {f v : Int} (h : v ∈ valF f T) : partL T f v ≠ [] := by
  obtain ⟨m, hm, e⟩ := valF_mem.1 h
  exact List.ne_nil_of_mem (List.mem_filter.2 ⟨hm, decide_eq_true e⟩)
theorem partL_lt {T : List Made} {f v : Int} (hl : (valF f T).length ≠ 1) (h : v ∈ valF f T) : (partL T f v).length < T.length := by
  rcases Nat.lt_or_ge (partL T f v).length T.length with h1 | h1
  · exact h1
  · exfalso
    have hle : (partL T f v).length ≤ T.length := List.length_filter_le _ _
    have heq : (partL T f v).length = T.length := by omega
    have hall : ∀ m ∈ T, tg m.look f = v := fun m hm => of_decide_eq_true ((List.length_filter_eq_length_iff.1 heq) m hm)
    apply hl
    have : valF f T = [v] := sorted_ext valuesZ_lt (List.pairwise_singleton _ _) fun x => by
      rw [valF_mem, List.mem_singleton]
      constructor
      · rintro ⟨m, hm, rfl⟩; exact hall m hm
      · rintro rfl; obtain ⟨m, hm, e⟩ := valF_mem.1 h; exact ⟨m, hm, e⟩
    rw [this]; rfl
theorem worstF_congr {g g' : List Made → Nat} {T : List Made} {f : Int} (h : ∀ v ∈ valF f T, g (partL T f v) = g' (partL T f v)) : worstF g T f = worstF g' T f := by
  unfold worstF; rw [List.map_congr_left h]
theorem needS_congr {g g' : List Made → Nat} {T : List Made} {F : List Int} (h : ∀ f ∈ F, (valF f T).length ≠ 1 → ∀ v ∈ valF f T, g (partL T f v) = g' (partL T f v)) : ∀ b, F.foldl (needS g T) b = F.foldl (needS g' T) b := by
  induction F with
  | nil => intro b; rfl
  | cons f F ih =>
    intro b
    rw [List.foldl_cons, List.foldl_cons]
    have e : needS g T b f = needS g' T b f := by
      unfold needS
      by_cases h1 : b = 0 ∨ (valF f T).length = 1
      · rw [if_pos h1, if_pos h1]
      · rw [if_neg h1, if_neg h1, worstF_congr (h f (by simp) fun e => h1 (.inr e))]
    rw [e]; exact ih (fun f' hf' => h f' (List.mem_cons_of_mem _ hf')) _
theorem needF_eq {F : List Int} : ∀ n (T : List Made), T ≠ [] → T.length ≤ n → needF n F T = needF T.length F T := by
  intro n
  induction n using Nat.strongRecOn with
  | _ n ih =>
    intro T hT hn
    obtain ⟨k, hk⟩ : ∃ k, T.length = k + 1 := ⟨T.length - 1, by have := List.length_pos_iff.2 hT; omega⟩
    rw [hk]
    obtain ⟨n, rfl⟩ : ∃ n', n = n' + 1 := ⟨n - 1, by omega⟩
    simp only [needF]
    refine needS_congr (fun f _ hl v hv => ?_) _
    have h1 := partL_lt hl hv
    have h2 := partL_ne hv
    rw [ih n (by omega) _ h2 (by omega)]
    by_cases hkn : k = n
    · subst hkn; rw [ih k (by omega) _ h2 (by omega)]
    · rw [ih k (by omega) _ h2 (by omega)]
theorem needL_eq {F : List Int} {T : List Made} (hT : T ≠ []) : needL F T = F.foldl (needS (needL F) T) (if modN T = 1 then 0 else 5) := by
  obtain ⟨k, hk⟩ : ∃ k, T.length = k + 1 := ⟨T.length - 1, by have := List.length_pos_iff.2 hT; omega⟩
  unfold needL
  rw [hk]
  simp only [needF]
  refine needS_congr (fun f _ hl v hv => ?_) _
  have h1 := partL_lt hl hv
  exact needF_eq k _ (partL_ne hv) (by omega)
theorem needS_le {g : List Made → Nat} {T : List Made} {F : List Int} : ∀ b, b ≤ 5 → F.foldl (needS g T) b ≤ 5 := by
  induction F with
  | nil => intro b hb; exact hb
  | cons f F ih =>
    intro b hb
    rw [List.foldl_cons]
    refine ih _ ?_
    unfold needS; split
    · exact hb
    · omega
theorem needL_le {F : List Int} {T : List Made} : needL F T ≤ 5 := by
  by_cases hT : T = []
  · subst hT; exact Nat.zero_le _
  · rw [needL_eq hT]; exact needS_le _ (by split <;> omega)
/-- The truths that a number's bits choose. -/
def selL (L : List Made) (now : Nat) : List Made := (L.zipIdx.filter fun q => now.testBit q.2).map (·.1)
theorem zip_mem {L : List Made} {q : Made × Nat} (h : q ∈ L.zipIdx) : ∃ h2 : q.2 < L.length, L[q.2] = q.1 := by
  obtain ⟨i, hi, rfl⟩ := List.mem_iff_getElem.1 h
  rw [List.length_zipIdx] at hi
  exact ⟨by simpa using hi, by simp⟩
theorem selL_whole {L : List Made} : selL L (2 ^ L.length - 1) = L := by
  unfold selL
  rw [List.filter_eq_self.2 fun q hq => by obtain ⟨h, _⟩ := zip_mem hq; rw [Nat.testBit_two_pow_sub_one]; simpa using h]
  simp [List.zipIdx_map_fst]
theorem selL_len {L : List Made} {now : Nat} : (selL L now).length ≤ L.length := by
  unfold selL
  rw [List.length_map]
  refine Nat.le_trans (List.length_filter_le _ _) ?_
  rw [List.length_zipIdx]; exact Nat.le_refl _
/-- The map of what is left, told by bits. -/
structure LkG (L : List Made) (now : Nat) (f : Int) (k : Nat) (m : List (Int × Nat)) : Prop where
  nd : (m.map (·.1)).Nodup
  bit : ∀ p ∈ m, p.2 < 2 ^ k ∧ ∀ i (h : i < L.length), p.2.testBit i = (decide (i < k) && now.testBit i && decide (tg L[i].look f = p.1))
  key : ∀ v, v ∈ m.map (·.1) ↔ ∃ i, ∃ h : i < L.length, i < k ∧ now.testBit i = true ∧ tg L[i].look f = v
theorem LkG.step {L : List Made} {now : Nat} {f : Int} {k : Nat} {m : List (Int × Nat)} (h : LkG L now f k m) (hk : k < L.length) : LkG L now f (k + 1) (lookS now f m (L[k], k)) := by
  have hlt : (2 : Nat) ^ k < 2 ^ (k + 1) := by rw [Nat.pow_succ]; have := Nat.one_le_two_pow (n := k); omega
  unfold lookS
  simp only
  cases hb : now.testBit k
  · rw [if_neg (by simp)]
    refine ⟨h.nd, fun p hp => ⟨by have := (h.bit p hp).1; omega, fun i hi => ?_⟩, fun v => ?_⟩
    · rw [(h.bit p hp).2 i hi]
      by_cases e : i = k
      · subst e; simp [hb]
      · rw [show decide (i < k + 1) = decide (i < k) by rw [Bool.eq_iff_iff]; simp; omega]
    · rw [h.key]
      constructor
      · rintro ⟨i, hi, h1, h2, h3⟩; exact ⟨i, hi, by omega, h2, h3⟩
      · rintro ⟨i, hi, h1, h2, h3⟩
        by_cases e : i = k
        · subst e; rw [hb] at h2; cases h2
        · exact ⟨i, hi, by omega, h2, h3⟩
  · rw [if_pos rfl]
    have hg : (mget m (tg L[k].look f)).getD 0 < 2 ^ k ∧ ∀ i (hi : i < L.length), ((mget m (tg L[k].look f)).getD 0).testBit i = (decide (i < k) && now.testBit i && decide (tg L[i].look f = tg L[k].look f)) := by
      cases hgm : mget m (tg L[k].look f) with
      | none =>
        have hn := mget_none.1 hgm
        rw [h.key] at hn
        refine ⟨Nat.two_pow_pos _, fun i hi => ?_⟩
        simp only [Option.getD_none, Nat.zero_testBit]
        symm
        rw [Bool.eq_false_iff]
        intro hc
        simp only [Bool.and_eq_true, decide_eq_true_eq] at hc
        exact hn ⟨i, hi, hc.1.1, hc.1.2, hc.2⟩
      | some b => exact h.bit _ (mget_mem hgm)
    refine ⟨mset_nodup h.nd, fun p hp => ?_, fun v => ?_⟩
    · rcases mset_other h.nd hp with rfl | ⟨h1, h2⟩
      · refine ⟨Nat.or_lt_two_pow (by omega) hlt, fun i hi => ?_⟩
        simp only
        rw [Nat.testBit_or, hg.2 i hi, Nat.testBit_two_pow]
        by_cases e : i = k
        · subst e; simp [hb]
        · rw [show decide (i < k + 1) = decide (i < k) by rw [Bool.eq_iff_iff]; simp; omega, show decide (k = i) = false from decide_eq_false (fun e' => e e'.symm), Bool.or_false]
      · refine ⟨by have := (h.bit p h1).1; omega, fun i hi => ?_⟩
        rw [(h.bit p h1).2 i hi]
        by_cases e : i = k
        · subst e; rw [show decide (tg L[i].look f = p.1) = false from decide_eq_false (fun e' => h2 e'.symm)]; simp
        · rw [show decide (i < k + 1) = decide (i < k) by rw [Bool.eq_iff_iff]; simp; omega]
    · rw [mset_keys, h.key]
      constructor
      · rintro (rfl | ⟨i, hi, h1, h2, h3⟩)
        · exact ⟨k, hk, by omega, hb, rfl⟩
        · exact ⟨i, hi, by omega, h2, h3⟩
      · rintro ⟨i, hi, h1, h2, h3⟩
        by_cases e : i = k
        · subst e; exact .inl h3.symm
        · exact .inr ⟨i, hi, by omega, h2, h3⟩
theorem looksG_inv {L : List Made} {now : Nat} {f : Int} : ∀ i, i ≤ L.length → LkG L now f i ((L.zipIdx.take i).foldl (lookS now f) [])
  | 0, _ => ⟨by simp, by simp, fun v => by simp⟩
  | i + 1, hi => by
    have hz : i < L.zipIdx.length := by rw [List.length_zipIdx]; omega
    have hzi : L.zipIdx[i] = (L[i], i) := by simp
    have ih := looksG_inv (L := L) (now := now) (f := f) i (by omega)
    rw [foldl_take _ _ _ _ hz, hzi]
    exact ih.step (by omega)
theorem looksG {L : List Made} {now : Nat} {f : Int} : LkG L now f L.length (looksM now L f) := by
  have := looksG_inv (L := L) (now := now) (f := f) L.length (Nat.le_refl _)
  have e : L.zipIdx.take L.length = L.zipIdx := List.take_of_length_le (Nat.le_of_eq List.length_zipIdx)
  rwa [e] at this
theorem selL_mem {L : List Made} {now : Nat} {x : Made} : x ∈ selL L now ↔ ∃ i, ∃ h : i < L.length, now.testBit i = true ∧ L[i] = x := by
  unfold selL
  rw [List.mem_map]
  constructor
  · rintro ⟨q, hq, rfl⟩
    obtain ⟨h1, h2⟩ := List.mem_filter.1 hq
    obtain ⟨h3, h4⟩ := zip_mem h1
    exact ⟨q.2, h3, h2, h4⟩
  · rintro ⟨i, h, hb, rfl⟩
    refine ⟨(L[i], i), List.mem_filter.2 ⟨?_, hb⟩, rfl⟩
    exact List.mem_iff_getElem.2 ⟨i, by rw [List.length_zipIdx]; exact h, by simp⟩
/-- Each part that the map has is the part of the list. -/
theorem looksG_part {L : List Made} {now : Nat} {f : Int} {p : Int × Nat} (hp : p ∈ looksM now L f) : selL L p.2 = partL (selL L now) f p.1 := by
  have h := (looksG (L := L) (now := now) (f := f)).bit p hp
  unfold selL partL
  rw [List.filter_map, List.filter_filter]
  congr 1
  refine List.filter_congr fun q hq => ?_
  obtain ⟨h3, h4⟩ := zip_mem hq
  rw [h.2 q.2 h3, h4, decide_eq_true h3]
  simp [Bool.and_comm]
theorem looksG_keys {L : List Made} {now : Nat} {f v : Int} : v ∈ (looksM now L f).map (·.1) ↔ v ∈ valF f (selL L now) := by
  rw [(looksG (L := L) (now := now) (f := f)).key, valF_mem]
  constructor
  · rintro ⟨i, hi, _, hb, rfl⟩; exact ⟨L[i], selL_mem.2 ⟨i, hi, hb, rfl⟩, rfl⟩
  · rintro ⟨m, hm, rfl⟩
    obtain ⟨i, hi, hb, rfl⟩ := selL_mem.1 hm
    exact ⟨i, hi, hi, hb, rfl⟩
theorem nodup_len {a b : List Int} (ha : a.Nodup) (hb : b.Nodup) (h : ∀ x, x ∈ a ↔ x ∈ b) : a.length = b.length := by
  exact ((List.perm_ext_iff_of_nodup ha hb).2 h).length_eq
theorem sorted_nodup {l : List Int} (h : l.Pairwise (· < ·)) : l.Nodup := h.imp fun h => by omega
theorem looksG_len {L : List Made} {now : Nat} {f : Int} : (looksM now L f).length = (valF f (selL L now)).length := by
  have h := nodup_len (looksG (L := L) (now := now) (f := f)).nd (sorted_nodup (valuesZ_lt (num := fun m : Made => tg m.look f) (l := selL L now))) (fun x => looksG_keys)
  rwa [List.length_map] at h
/-- The worst part, over the map. -/
theorem worst_map {L : List Made} {now : Nat} {f : Int} {g : List Made → Nat} : ((looksM now L f).map fun p => g (selL L p.2)).foldl max 0 = worstF g (selL L now) f := by
  have hG := looksG (L := L) (now := now) (f := f)
  unfold worstF
  apply Nat.le_antisymm
  · rcases foldl_max_mem (l := (looksM now L f).map fun p => g (selL L p.2)) (b := 0) with h | h
    · rw [h]; exact Nat.zero_le _
    · obtain ⟨p, hp, he⟩ := List.mem_map.1 h
      rw [← he, looksG_part hp]
      exact foldl_max_le (.inl (List.mem_map.2 ⟨p.1, looksG_keys.1 (List.mem_map.2 ⟨p, hp, rfl⟩), rfl⟩))
  · rcases foldl_max_mem (l := (valF f (selL L now)).map fun v => g (partL (selL L now) f v)) (b := 0) with h | h
    · rw [h]; exact Nat.zero_le _
    · obtain ⟨v, hv, he⟩ := List.mem_map.1 h
      obtain ⟨p, hp, rfl⟩ := List.mem_map.1 (looksG_keys.2 hv)
      rw [← he, ← looksG_part hp]
      exact foldl_max_le (.inl (List.mem_map.2 ⟨p, hp, rfl⟩))
end Go.Proofs
set_option linter.unusedSimpArgs false
set_option linter.unusedVariables false
namespace Go.Mu
open Go

variable {E : Env} {ro : Option Nat} {K : Kr} {n : Nat}

theorem mlen_sound (hT : TysOK E.P E.ty) {σ : List AObj} {w : World} (hR : R K σ w) {t kt et r : Nat} {es : List (AV × AV)} (hk : (E.ty t).kd = .map kt et) (hg : hget σ r = some (.map es)) (type : TypeId) :
    (Builtin.len_ #[t] type #[.map (some (K.φ r))]).run E.P w = .ok (.int .i64 es.length) w := by
  obtain ⟨d, hd, hu⟩ := run_under hT (t := t) (by rw [hk]; simp)
  rw [hk] at hd
  simp only [KdOK] at hd
  subst hd
  obtain ⟨es', clock, h1, h2⟩ := hR.obj r _ hg
  simp [Builtin.len_, hu w, run_getMap h1, goInt, h2.1]
/-- An operation that takes a map's length. -/
def mlenA (E : Env) (fr : Fr) (σ : List AObj) (op : Op) (X : AV → List AObj → Prop) : Prop := match op with
  | .call ⟨.builtin .len, args, ats⟩ => match aevals fr args.toList, ats.toList with
    | some [.map r], [t] => match (E.ty t).kd, hget σ r with
      | .map _ _, some (.map es) => X (.int .i64 es.length) σ
      | _, _ => False
    | _, _ => False
  | _ => False
/-- What stands behind an operation. -/
def nextM (E : Env) (ev : Fr → List AObj → Prop) (dst : Option Tmp) (fr : Fr) (v : AV) (σ : List AObj) : Prop := match dst with
  | none => ev fr σ
  | some d => d < E.N ∧ ev (fr.put d v) σ
/-- Operations, of which the q-th takes a map's length. -/
def evOpsM (E : Env) (all : List Oper) : Nat → List Oper → Fr → List AObj → (Fr → List AObj → Prop) → Prop
  | _, [], fr, σ, Q => Q fr σ
  | 0, o :: os, fr, σ, Q => match wantA all fr o.guard with
    | none => False
    | some b => (b = true → mlenA E fr σ o.op (evNext E all os o.dst fr Q)) ∧ (b = false → evNext E all os o.dst fr Q (.tup []) σ)
  | q + 1, o :: os, fr, σ, Q => match wantA all fr o.guard with
    | none => False
    | some b => (b = true → evOp E fr σ o.type o.op (nextM E (fun fr σ => evOpsM E all q os fr σ Q) o.dst fr)) ∧ (b = false → nextM E (fun fr σ => evOpsM E all q os fr σ Q) o.dst fr (.tup []) σ)

theorem nextM_sound {X : Act → World → Prop} {ev : Fr → List AObj → Prop} {dst : Option Tmp} {fr : Fr} {σ σ' : List AObj} {w w' : World} {K K' : Kr} {a : Act} {v : AV} {c : Value}
    (ih : ∀ (K' : Kr) (σ' : List AObj) (w' : World) (fr : Fr) (a' : Act), ev fr σ' → R K' σ' w' → FR K' σ'.length E.N fr a'.tmps → Step K σ w K' σ' w' → a'.defers = a.defers → X a' w')
    (h : nextM E ev dst fr v σ') (hR : R K' σ' w') (hF : FR K σ.length E.N fr a.tmps) (hS : Step K σ w K' σ' w') (hv : VR K' σ'.length v c) : X (a.put dst c) w' := by
  have hF' : FR K' σ'.length E.N fr a.tmps := hF.mono hS.ext hS.len
  cases dst with
  | none => exact ih K' σ' w' fr a h hR hF' hS rfl
  | some d => exact ih K' σ' w' (fr.put d v) _ h.2 hR (hF'.put h.1 hv) hS (put_defers _ _ _)

theorem mlenIn_sound (hE : EnvOK E) {fr : Fr} {σ : List AObj} {w : World} {a : Act} {o : Oper} {X : AV → List AObj → Prop} (h : mlenA E fr σ o.op X) (hR : R K σ w) (hF : FR K σ.length E.N fr a.tmps) {KK : Act → World → Prop} {QQ : Exit → Act → World → Prop}
    (hk : ∀ K' σ' w' v c, X v σ' → R K' σ' w' → VR K' σ'.length v c → Step K σ w K' σ' w' → KK (a.put o.dst c) w') : o.wpIn (Fw ro) n E.P a w KK QQ := by
  refine ⟨fun f _ => trivial, ?_⟩
  obtain ⟨dst, op, type, pos, after, guard⟩ := o
  simp only at h
  unfold mlenA at h
  split at h
  · rename_i args ats
    split at h
    · rename_i r t hargs hats
      split at h
      · rename_i kt et es hkd hg
        rw [notDefer (by intro c hc; cases hc)]
        have hv := aevals_sound hF hargs
        have hl : args.toList.length = 1 := by have := hv.1; simp at this; simpa using this.symm
        obtain ⟨x, hx⟩ := List.length_eq_one_iff.1 hl
        have hx' : args = #[x] := by apply Array.ext'; simpa using hx
        subst hx'
        have ht' : ats = #[t] := by apply Array.ext'; simpa using hats
        subst ht'
        simp at hv
        have hm := hv.head.map_inv.2
        have hrun : (execOp a.eval ⟨dst, .call ⟨.builtin .len, #[x], #[t]⟩, type, pos, after, guard⟩).run E.P w = .ok (.value (.int .i64 es.length)) w := by
          simp [execOp, resolve, invoke, builtin, hm, mlen_sound hE.ty hR hkd hg type]
        rw [hrun]
        exact hk _ _ _ _ _ h hR (.int _ _) (.refl _ _ _)
      · exact h.elim
    · exact h.elim
  · exact h.elim

theorem evOpsM_sound (hE : EnvOK E) {ops : Array Oper} {Q : Fr → List AObj → Prop} {K0 : Kr} {σ0 : List AObj} {w0 : World} {ds : List Deferred} : ∀ (q : Nat) (l : List Nat) (os : List Oper), l.map (fun i => ops[i]?) = os.map some →
    ∀ (K : Kr) (σ : List AObj) (w : World) (fr : Fr) (a : Act), evOpsM E ops.toList q os fr σ Q → R K σ w → FR K σ.length E.N fr a.tmps → Step K0 σ0 w0 K σ w → a.defers = ds →
      wpOpsIn (Fw ro) n E.P ops (Done E K0 σ0 w0 ds Q) l a w
  | q, [], os, hl, K, σ, w, fr, a, h, hR, hF, hS, hd => by
    cases os with
    | cons => simp at hl
    | nil => cases q <;> exact ⟨rfl, K, σ, fr, h, hR, hF, hS, hd⟩
  | q, i :: l, os, hl, K, σ, w, fr, a, h, hR, hF, hS, hd => by
    cases os with
    | nil => simp at hl
    | cons o os =>
      simp only [List.map_cons, List.cons.injEq] at hl
      obtain ⟨hi, hl⟩ := hl
      cases q with
      | zero =>
        have ih : ∀ (K' : Kr) (σ' : List AObj) (w' : World) (fr : Fr) (a' : Act), evOps E ops.toList os fr σ' Q → R K' σ' w' → FR K' σ'.length E.N fr a'.tmps → Step K σ w K' σ' w' → a'.defers = a.defers →
            wpOpsIn (Fw ro) n E.P ops (Done E K0 σ0 w0 ds Q) l a' w' := fun K' σ' w' fr a' h1 h2 h3 h4 h5 => evOps_sound hE l os hl K' σ' w' fr a' h1 h2 h3 (hS.trans h4) (h5.trans hd)
        simp only [evOpsM] at h
        simp only [wpOpsIn, hi]
        split at h
        · exact h.elim
        · rename_i b hb
          have hw := wantA_sound hF hb
          cases b with
          | false =>
            rw [if_neg (by rw [hw]; simp)]
            exact ⟨fun f _ => trivial, next_sound ih (h.2 rfl) hR hF (.refl _ _ _) undef_VR⟩
          | true =>
            rw [if_pos hw]
            exact mlenIn_sound hE (h.1 rfl) hR hF fun K' σ' w' v c h1 h2 h3 h4 => next_sound ih h1 h2 hF h4 h3
      | succ q =>
        have ih : ∀ (K' : Kr) (σ' : List AObj) (w' : World) (fr : Fr) (a' : Act), evOpsM E ops.toList q os fr σ' Q → R K' σ' w' → FR K' σ'.length E.N fr a'.tmps → Step K σ w K' σ' w' → a'.defers = a.defers →
            wpOpsIn (Fw ro) n E.P ops (Done E K0 σ0 w0 ds Q) l a' w' := fun K' σ' w' fr a' h1 h2 h3 h4 h5 => evOpsM_sound hE q l os hl K' σ' w' fr a' h1 h2 h3 (hS.trans h4) (h5.trans hd)
        simp only [evOpsM] at h
        simp only [wpOpsIn, hi]
        split at h
        · exact h.elim
        · rename_i b hb
          have hw := wantA_sound hF hb
          cases b with
          | false =>
            rw [if_neg (by rw [hw]; simp)]
            exact ⟨fun f _ => trivial, nextM_sound ih (h.2 rfl) hR hF (.refl _ _ _) undef_VR⟩
          | true =>
            rw [if_pos hw]
            exact opIn_sound hE (h.1 rfl) hR hF fun K' σ' w' v c h1 h2 h3 h4 => nextM_sound ih h1 h2 hF h4 h3
/-- A statement in the text's order, of which the q-th operation takes a map's length. -/
theorem ARun.regionM (hE : EnvOK E) (q : Nat) {id : Nat} {ops : Array Oper} {k : List Item} {fr : Fr} {σ : List AObj} {Q : Option Code → Fr → List AObj → Prop}
    (h : evOpsM E ops.toList q ops.toList fr σ fun fr σ => ARun E ro k fr σ Q) : ARun E ro (.code (.region id ops false) :: k) fr σ Q := by
  intro K w a b cs hb hR hF
  have hl : (List.range ops.size).map (fun i => ops[i]?) = ops.toList.map some := by
    apply List.ext_getElem
    · simp
    · intro i h1 h2
      simp at h1 h2 ⊢
  have hw := evOpsM_sound (ro := b.roundOf) (n := 0) hE q (List.range ops.size) ops.toList hl K σ w fr a h hR hF (.refl _ _ _) rfl
  obtain ⟨e, a', w', ⟨rfl, K', σ', fr', hq, h2, h3, h4, h5⟩, harr⟩ := wpIn_region hw b k cs rfl trivial (Fw_room _ _)
  obtain ⟨K2, σ2, fr2, w2, a2, t2, j, ms, g1, g2, g3, g4, g5, g6, g7, g8⟩ := hq K' w' a' b cs (hb.mono h4.ext h4.len) h2 h3
  refine ⟨K2, σ2, fr2, w2, a2, t2, j, ms, g1, (StepsIn.steps harr).trans g2, g3, g4, g5, h4.trans g6, by rw [g7, h5], ?_⟩
  exact ⟨g8.nodup, fun r hr => Nat.le_trans h4.size (g8.lo r hr), g8.heap, g8.free⟩
-- rules of the walk
def nextN (E : Env) (all : List Oper) (q : Nat) (os : List Oper) (dst : Option Tmp) (fr : Fr) (Q : Fr → List AObj → Prop) (v : AV) (σ : List AObj) : Prop := nextM E (fun fr σ => evOpsM E all q os fr σ Q) dst fr v σ
def guardM (E : Env) (all os : List Oper) (q : Nat) (dst : Option Tmp) (fr : Fr) (Q : Fr → List AObj → Prop) (σ : List AObj) (type : TypeId) (op : Op) (want : Bool) (v : Option AV) : Prop := match v with
  | some (.bool b) => (b = want → evOp E fr σ type op (nextN E all q os dst fr Q)) ∧ (b = !want → nextN E all q os dst fr Q (.tup []) σ)
  | some (.tup []) => nextN E all q os dst fr Q (.tup []) σ
  | _ => False
def guardL (E : Env) (all os : List Oper) (dst : Option Tmp) (fr : Fr) (Q : Fr → List AObj → Prop) (σ : List AObj) (op : Op) (want : Bool) (v : Option AV) : Prop := match v with
  | some (.bool b) => (b = want → mlenA E fr σ op (evNext E all os dst fr Q)) ∧ (b = !want → evNext E all os dst fr Q (.tup []) σ)
  | some (.tup []) => evNext E all os dst fr Q (.tup []) σ
  | _ => False
def mlenH (X : AV → List AObj → Prop) (σ : List AObj) : Option AObj → Prop
  | some (.map es) => X (.int .i64 es.length) σ
  | _ => False
def mlenO (X : AV → List AObj → Prop) (σ : List AObj) (k : TK) : Option AV → Prop
  | some (.map r) => match k with
    | .map _ _ => mlenH X σ (hget σ r)
    | _ => False
  | _ => False
section
variable {all os : List Oper} {q : Nat} {dst : Option Tmp} {fr : Fr} {Q : Fr → List AObj → Prop} {σ : List AObj} {type : TypeId} {op : Op} {want : Bool} {X : AV → List AObj → Prop}
theorem nextN_none {v : AV} : nextN E all q os none fr Q v σ = evOpsM E all q os fr σ Q := rfl
theorem nextN_some {d : Tmp} {v : AV} : nextN E all q os (some d) fr Q v σ = (d < E.N ∧ evOpsM E all q os (fr.put d v) σ Q) := rfl
theorem guardM_tt : guardM E all os q dst fr Q σ type op true (some (.bool true)) = evOp E fr σ type op (nextN E all q os dst fr Q) := by simp [guardM]
theorem guardM_ff : guardM E all os q dst fr Q σ type op false (some (.bool false)) = evOp E fr σ type op (nextN E all q os dst fr Q) := by simp [guardM]
theorem guardM_tf : guardM E all os q dst fr Q σ type op false (some (.bool true)) = nextN E all q os dst fr Q (.tup []) σ := by simp [guardM]
theorem guardM_ft : guardM E all os q dst fr Q σ type op true (some (.bool false)) = nextN E all q os dst fr Q (.tup []) σ := by simp [guardM]
theorem guardM_tup : guardM E all os q dst fr Q σ type op want (some (.tup [])) = nextN E all q os dst fr Q (.tup []) σ := by simp [guardM]
theorem guardL_tt : guardL E all os dst fr Q σ op true (some (.bool true)) = mlenA E fr σ op (evNext E all os dst fr Q) := by simp [guardL]
theorem guardL_ff : guardL E all os dst fr Q σ op false (some (.bool false)) = mlenA E fr σ op (evNext E all os dst fr Q) := by simp [guardL]
theorem guardL_tf : guardL E all os dst fr Q σ op false (some (.bool true)) = evNext E all os dst fr Q (.tup []) σ := by simp [guardL]
theorem guardL_ft : guardL E all os dst fr Q σ op true (some (.bool false)) = evNext E all os dst fr Q (.tup []) σ := by simp [guardL]
theorem guardL_tup : guardL E all os dst fr Q σ op want (some (.tup [])) = evNext E all os dst fr Q (.tup []) σ := by simp [guardL]
@[congr] theorem guardM_congr {v v' : Option AV} (h : v = v') : guardM E all os q dst fr Q σ type op want v = guardM E all os q dst fr Q σ type op want v' := by rw [h]
@[congr] theorem guardL_congr {v v' : Option AV} (h : v = v') : guardL E all os dst fr Q σ op want v = guardL E all os dst fr Q σ op want v' := by rw [h]
@[congr] theorem mlenH_congr {v v' : Option AObj} (h : v = v') : mlenH X σ v = mlenH X σ v' := by rw [h]
@[congr] theorem mlenO_congr {k k' : TK} {v v' : Option AV} (h1 : k = k') (h : v = v') : mlenO X σ k v = mlenO X σ k' v' := by rw [h, h1]
theorem mlenH_map {es : List (AV × AV)} : mlenH X σ (some (.map es)) = X (.int .i64 es.length) σ := rfl
theorem mlenO_map {kt et r : Nat} : mlenO X σ (.map kt et) (some (.map r)) = mlenH X σ (hget σ r) := rfl
theorem evOpsM_plain {pos : String} {after : Array Edge} : evOpsM E all (q + 1) (⟨dst, op, type, pos, after, none⟩ :: os) fr σ Q = evOp E fr σ type op (nextN E all q os dst fr Q) := by
  have e : wantA all fr none = some true := rfl
  simp only [evOpsM, e, true_implies, Bool.true_eq_false, false_implies, and_true, forall_const]
  rfl
@[congr] theorem nextN_congr {fr' : Fr} {v v' : AV} {σ' : List AObj} (h1 : fr = fr') (h2 : v = v') (h3 : σ = σ') : nextN E all q os dst fr Q v σ = nextN E all q os dst fr' Q v' σ' := by rw [h1, h2, h3]
@[congr] theorem evOpsM_congr {fr' : Fr} {σ' : List AObj} (h1 : fr = fr') (h3 : σ = σ') : evOpsM E all q os fr σ Q = evOpsM E all q os fr' σ' Q := by rw [h1, h3]
theorem wantM {j : Nat} {A B : Prop} : (match wantA all fr (some (j, want)) with
    | none => False
    | some b => (b = true → A) ∧ (b = false → B)) = match getO fr (dstOf all j) with
    | some (.bool b) => (b = want → A) ∧ (b = !want → B)
    | some (.tup []) => B
    | _ => False := by
  simp only [wantA, dstOf_eq]
  cases dstOf all j with
  | none => rfl
  | some d =>
    simp only [getO]
    cases fr.get d with
    | none => rfl
    | some v =>
      cases v with
      | bool b => cases b <;> cases want <;> simp
      | tup vs => cases vs <;> simp
      | _ => rfl
theorem evOpsM_guard {pos : String} {after : Array Edge} {j : Nat} : evOpsM E all (q + 1) (⟨dst, op, type, pos, after, some (j, want)⟩ :: os) fr σ Q = guardM E all os q dst fr Q σ type op want (getO fr (dstOf all j)) := by
  simp only [evOpsM]
  rw [wantM]; rfl
theorem evOpsM_len {pos : String} {after : Array Edge} {j : Nat} : evOpsM E all 0 (⟨dst, op, type, pos, after, some (j, want)⟩ :: os) fr σ Q = guardL E all os dst fr Q σ op want (getO fr (dstOf all j)) := by
  simp only [evOpsM]
  rw [wantM]; rfl
theorem mlenA_len {x : Operand} {t : TypeId} : mlenA E fr σ (.call ⟨.builtin .len, #[x], #[t]⟩) X = mlenO X σ (E.ty t).kd (aeval fr x) := by
  simp only [mlenA, aevals]
  cases aeval fr x with
  | none => rfl
  | some v =>
    simp only
    cases v with
    | map r =>
      simp only [mlenO]
      cases (E.ty t).kd <;> try rfl
      cases hget σ r with
      | none => rfl
      | some o => cases o <;> rfl
    | _ => rfl
end
/-- A loop that counts to n, whose rounds are goals of their own. -/
theorem ARun.countA {E : Env} {ro : Option Nat} {c : Code} {k : List Item} {kp : Nat → Bool} {tm sl : List (Nat × AV)} {σ : List AObj} {Q : Post} (n : Nat) (J : Nat → List AObj → Prop) (lv : Nat → List (Nat × AV))
    (h0 : subF (upd sl (lv 0)) sl) (hJ : J 0 σ)
    (hs : ∀ i τ, i < n → J i τ → (∀ τ', J (i + 1) τ' → ARun E ro (.inLoop c :: k) ⟨kp, [], upd sl (lv (i + 1))⟩ τ' Q) → ARun E ro (.code c :: .inLoop c :: k) ⟨kp, [], upd sl (lv i)⟩ τ Q)
    (he : ∀ τ, J n τ → ARun E ro (.code c :: .inLoop c :: k) ⟨kp, [], upd sl (lv n)⟩ τ Q) : ARun E ro (.code (.loop c) :: k) ⟨kp, tm, sl⟩ σ Q := by
  have key : ∀ m i τ, n - i = m → i ≤ n → J i τ → ARun E ro (.code c :: .inLoop c :: k) ⟨kp, [], upd sl (lv i)⟩ τ Q := by
    intro m
    induction m with
    | zero =>
      intro i τ hm hi hj
      obtain rfl : i = n := by omega
      exact he τ hj
    | succ m ih =>
      intro i τ hm hi hj
      exact hs i τ (by omega) hj fun τ' hj' => .inLoop (ih (i + 1) τ' (by omega) (by omega) hj')
  exact .loop (ARun.sub (key _ 0 σ rfl (Nat.zero_le _) hJ) h0)
end Go.Mu
set_option linter.unusedSimpArgs false
set_option linter.unusedVariables false
set_option maxRecDepth 100000
namespace Go.Proofs
open Go Go.Mu

/-! Decides: the closure that remembers what it found. -/
def mapN (m : List (Int × Nat)) : List (AV × AV) := m.map fun p => (AV.int .u64 p.1, AV.int .i64 (p.2 : Int))
theorem findA_mapN (k : Int) : ∀ (m : List (Int × Nat)) (i : Nat), findA (.int .u64 k) (mapN m) i = some ((fIdx k m i).map fun q => (q.1, AV.int .i64 (q.2 : Int)))
  | [], i => rfl
  | (k', v) :: m, i => by
    have ih := findA_mapN k m (i + 1)
    unfold mapN at ih ⊢
    simp only [List.map_cons, findA, keyEq, if_true, fIdx]
    by_cases h : k = k'
    · subst h; simp
    · have : (k == k') = false := by simpa using h
      rw [this, if_neg h]
      exact ih
theorem updN {r : Nat} {m : List (Int × Nat)} {k : Int} {v : Nat} {σ : List AObj} : updR r (mapN m) (.int .u64 k) (.int .i64 (v : Int)) σ (findA (.int .u64 k) (mapN m) 0) = some (.tup [], hset σ r (.map (mapN (mset m k v)))) := by
  rw [findA_mapN]
  unfold mset mapN
  cases fIdx k m 0 with
  | none => simp [updR]
  | some q => simp [updR, List.map_set]
theorem lookN {m : List (Int × Nat)} {k : Int} {σ : List AObj} : lookR true (.int .i64 0) σ (findA (.int .u64 k) (mapN m) 0) = some (match mget m k with
      | some v => .tup [.int .i64 (v : Int), .bool true]
      | none => .tup [.int .i64 0, .bool false], σ) := by
  rw [findA_mapN]
  unfold mget
  cases fIdx k m 0 with
  | none => rfl
  | some q => rfl
attribute [go_sem] updN lookN
attribute [go_sem] evOpsM_plain evOpsM_guard evOpsM_len nextN_some nextN_none guardM_tt guardM_ff guardM_tf guardM_ft guardM_tup guardL_tt guardL_ff guardL_tf guardL_ft guardL_tup mlenA_len mlenO_map mlenH_map
/-- Which models are there, as a number's bits. -/
def modS (now : Nat) (b : Nat) (q : Made × Nat) : Nat := if now.testBit q.2 then b ||| 2 ^ q.1.model.toNat else b
def modM (now : Nat) (L : List Made) : Nat := L.zipIdx.foldl (modS now) 0
theorem modM_inv {L : List Made} {now : Nat} (hm : ∀ m ∈ L, 0 ≤ m.model ∧ m.model < 4) : ∀ i, i ≤ L.length → (L.zipIdx.take i).foldl (modS now) 0 < 16 ∧ ∀ j : Nat, ((L.zipIdx.take i).foldl (modS now) 0).testBit j = true ↔ ∃ k, ∃ h : k < L.length, k < i ∧ now.testBit k = true ∧ L[k].model = j
  | 0, _ => ⟨by simp, fun j => by simp⟩
  | i + 1, hi => by
    have hz : i < L.zipIdx.length := by rw [List.length_zipIdx]; omega
    have hzi : L.zipIdx[i] = (L[i], i) := by simp
    obtain ⟨ih1, ih2⟩ := modM_inv (now := now) hm i (by omega)
    rw [foldl_take _ _ _ _ hz, hzi]
    generalize (L.zipIdx.take i).foldl (modS now) 0 = b at ih1 ih2 ⊢
    have hmi := hm _ (List.getElem_mem (show i < L.length by omega))
    unfold modS
    simp only
    cases hb : now.testBit i
    · rw [if_neg (by simp)]
      refine ⟨ih1, fun j => ?_⟩
      rw [ih2]
      constructor
      · rintro ⟨k, h, h1, h2, h3⟩; exact ⟨k, h, by omega, h2, h3⟩
      · rintro ⟨k, h, h1, h2, h3⟩
        by_cases e : k = i
        · subst e; rw [hb] at h2; cases h2
        · exact ⟨k, h, by omega, h2, h3⟩
    · rw [if_pos rfl]
      refine ⟨Nat.or_lt_two_pow (n := 4) ih1 (Nat.pow_lt_pow_right (by omega) (by omega)), fun j => ?_⟩
      rw [Nat.testBit_or, Nat.testBit_two_pow, Bool.or_eq_true, ih2, decide_eq_true_eq]
      constructor
      · rintro (⟨k, h, h1, h2, h3⟩ | h)
        · exact ⟨k, h, by omega, h2, h3⟩
        · exact ⟨i, by omega, by omega, hb, by omega⟩
      · rintro ⟨k, h, h1, h2, h3⟩
        by_cases e : k = i
        · subst e; exact .inr (by omega)
        · exact .inl ⟨k, h, by omega, h2, h3⟩
theorem popN_testBit {x n : Nat} (h : x < 2 ^ n) : popN x = cntN x.testBit n := by
  rw [← popN_bits]
  congr 1
  refine Nat.eq_of_testBit_eq fun i => ?_
  rw [bitsOf_test]
  by_cases hi : i < n
  · simp [hi]
  · have : x.testBit i = false := Nat.testBit_lt_two_pow (Nat.lt_of_lt_of_le h (Nat.pow_le_pow_right (by omega) (by omega)))
    simp [hi, this]
theorem modM_pop {L : List Made} {now : Nat} (hm : ∀ m ∈ L, 0 ≤ m.model ∧ m.model < 4) : popN (modM now L) = modN (selL L now) := by
  obtain ⟨h1, h2⟩ := modM_inv (now := now) hm L.length (Nat.le_refl _)
  have e : L.zipIdx.take L.length = L.zipIdx := List.take_of_length_le (Nat.le_of_eq List.length_zipIdx)
  rw [e] at h1 h2
  change modM now L < 16 at h1
  change ∀ j, (modM now L).testBit j = true ↔ _ at h2
  rw [popN_testBit (n := 4) h1]
  unfold modN cntN
  rw [← List.length_map (f := fun k : Nat => (k : Int))]
  refine nodup_len ?_ (sorted_nodup valuesZ_lt) fun x => ?_
  · refine sorted_nodup (List.pairwise_map.2 ((List.Pairwise.filter _ List.pairwise_lt_range).imp ?_))
    intro a b h; omega
  · rw [valuesZ_mem, List.mem_map]
    constructor
    · rintro ⟨j, hj, rfl⟩
      obtain ⟨_, hj⟩ := List.mem_filter.1 hj
      obtain ⟨k, h, _, hb, e⟩ := (h2 j).1 hj
      exact ⟨L[k], selL_mem.2 ⟨k, h, hb, rfl⟩, e⟩
    · rintro ⟨m, hmm, rfl⟩
      obtain ⟨k, h, hb, rfl⟩ := selL_mem.1 hmm
      have := hm _ (List.getElem_mem h)
      refine ⟨L[k].model.toNat, List.mem_filter.2 ⟨List.mem_range.2 (by omega), (h2 _).2 ⟨k, h, h, hb, by omega⟩⟩, by omega⟩
def MemoOK (L : List Made) (F : List Int) (m : List (Int × Nat)) : Prop := ∀ p ∈ m, ∃ now : Nat, p.1 = now ∧ p.2 = needL F (selL L now)
/-- What the closure finds in its variables. -/
structure DH (L : List Made) (F : List Int) (a1 a2 a3 a4 mr : Nat) (τ : List AObj) : Prop where
  h1 : hget τ a1 = some (.cells [.map mr])
  h2 : hget τ a2 = some (.cells [.list .no 8 (L.map Made.av)])
  h3 : hget τ a3 = some (.cells [isv F])
  h4 : hget τ a4 = some (.cells [.fn (.func 84) [] [.ptr a1 0, .ptr a2 0, .ptr a3 0, .ptr a4 0]])
  hm : ∃ m, hget τ mr = some (.map (mapN m)) ∧ MemoOK L F m
/-- All but the memory is as it was. -/
def Sm (mr : Nat) (τ τ' : List AObj) : Prop := τ.length ≤ τ'.length ∧ ∀ k, k < τ.length → k ≠ mr → hget τ' k = hget τ k
theorem Sm.refl {mr : Nat} {τ : List AObj} : Sm mr τ τ := ⟨Nat.le_refl _, fun _ _ _ => rfl⟩
theorem Sm.trans {mr : Nat} {a b c : List AObj} (h : Sm mr a b) (g : Sm mr b c) : Sm mr a c := ⟨Nat.le_trans h.1 g.1, fun k h1 h2 => (g.2 k (by have := h.1; omega) h2).trans (h.2 k h1 h2)⟩
theorem Sm.app {mr : Nat} {a b l : List AObj} (h : Sm mr a b) : Sm mr a (b ++ l) := ⟨by have := h.1; simp; omega, fun k h1 h2 => by rw [hget_app (by have := h.1; omega)]; exact h.2 k h1 h2⟩
theorem Sm.set {mr r : Nat} {a b : List AObj} {o : AObj} (h : Sm mr a b) (hr : a.length ≤ r ∨ r = mr) : Sm mr a (hset b r o) := ⟨by rw [length_hset]; exact h.1, fun k h1 h2 => by
  rw [hget_ne (by omega)]; exact h.2 k h1 h2⟩
theorem DH.ne {L : List Made} {F : List Int} {a1 a2 a3 a4 mr : Nat} {τ : List AObj} (h : DH L F a1 a2 a3 a4 mr τ) : a1 ≠ mr ∧ a2 ≠ mr ∧ a3 ≠ mr ∧ a4 ≠ mr ∧ mr < τ.length ∧ a1 < τ.length ∧ a2 < τ.length ∧ a3 < τ.length ∧ a4 < τ.length := by
  obtain ⟨m, hm, _⟩ := h.hm
  refine ⟨?_, ?_, ?_, ?_, hget_lt hm, hget_lt h.h1, hget_lt h.h2, hget_lt h.h3, hget_lt h.h4⟩
  · rintro rfl; rw [h.h1] at hm; cases hm
  · rintro rfl; rw [h.h2] at hm; cases hm
  · rintro rfl; rw [h.h3] at hm; cases hm
  · rintro rfl; rw [h.h4] at hm; cases hm
theorem DH.sm {L : List Made} {F : List Int} {a1 a2 a3 a4 mr : Nat} {τ τ' : List AObj} (h : DH L F a1 a2 a3 a4 mr τ) (hs : Sm mr τ τ') (hm : ∃ m, hget τ' mr = some (.map (mapN m)) ∧ MemoOK L F m) : DH L F a1 a2 a3 a4 mr τ' := by
  obtain ⟨n1, n2, n3, n4, _, l1, l2, l3, l4⟩ := h.ne
  exact ⟨(hs.2 _ l1 n1).trans h.h1, (hs.2 _ l2 n2).trans h.h2, (hs.2 _ l3 n3).trans h.h3, (hs.2 _ l4 n4).trans h.h4, hm⟩
theorem DH.app {L : List Made} {F : List Int} {a1 a2 a3 a4 mr : Nat} {τ l : List AObj} (h : DH L F a1 a2 a3 a4 mr τ) : DH L F a1 a2 a3 a4 mr (τ ++ l) := by
  obtain ⟨m, hm, ho⟩ := h.hm
  exact h.sm Sm.refl.app ⟨m, by rw [hget_app (hget_lt hm)]; exact hm, ho⟩
theorem DH.set {L : List Made} {F : List Int} {a1 a2 a3 a4 mr r : Nat} {τ : List AObj} {o : AObj} (h : DH L F a1 a2 a3 a4 mr τ) (h1 : r ≠ a1) (h2 : r ≠ a2) (h3 : r ≠ a3) (h4 : r ≠ a4) (h5 : r ≠ mr) : DH L F a1 a2 a3 a4 mr (hset τ r o) := by
  obtain ⟨m, hm, ho⟩ := h.hm
  exact ⟨by rw [hget_ne h1]; exact h.h1, by rw [hget_ne h2]; exact h.h2, by rw [hget_ne h3]; exact h.h3, by rw [hget_ne h4]; exact h.h4, m, by rw [hget_ne h5]; exact hm, ho⟩
theorem max_take {g : Int × Nat → Nat} {m : List (Int × Nat)} {n : Nat} (h : ∀ i, (h : i < m.length) → g m[i] ≤ n) (h2 : n = 0 ∨ ∃ p ∈ m, g p = n) : (m.map g).foldl max 0 = n := by
  apply Nat.le_antisymm
  · rcases foldl_max_mem (l := m.map g) (b := 0) with h1 | h1
    · rw [h1]; exact Nat.zero_le _
    · obtain ⟨p, hp, he⟩ := List.mem_map.1 h1
      obtain ⟨i, hi, rfl⟩ := List.mem_iff_getElem.1 hp
      rw [← he]; exact h i hi
  · rcases h2 with rfl | ⟨p, hp, he⟩
    · exact Nat.zero_le _
    · rw [← he]; exact foldl_max_le (.inl (List.mem_map.2 ⟨p, hp, rfl⟩))
set_option maxHeartbeats 400000000 in
theorem needs_c {L : List Made} {F : List Int} {a1 a2 a3 a4 mr : Nat} (hL : L.length ≤ 16) (hmo : ∀ m ∈ L, 0 ≤ m.model ∧ m.model < 4) (hF : F.length ≤ 4) (hFm : ∀ f ∈ F, 0 ≤ f ∧ f < 4) :
    ∀ n now, now < 2 ^ L.length → selL L now ≠ [] → (selL L now).length ≤ n → ∀ σ, DH L F a1 a2 a3 a4 mr σ → ∀ Q : AV → List AObj → Prop, (∀ σ', Sm mr σ σ' → DH L F a1 a2 a3 a4 mr σ' → Q (.int .i64 (needL F (selL L now) : Int)) σ') →
      ACalls Tryz.prog 84 [.int .u64 (now : Int), .ptr a1 0, .ptr a2 0, .ptr a3 0, .ptr a4 0] σ Q := by
  intro n
  induction n with
  | zero =>
    intro now _ hne h0
    exact absurd (List.length_eq_zero_iff.1 (by omega)) hne
  | succ n IH =>
  intro now hnow hne hlen σ hD Q hQ
  have hnw : now < 65536 := Nat.lt_of_lt_of_le hnow (Nat.pow_le_pow_right (n := 2) (by omega) hL)
  obtain ⟨m0, hm0, hmok⟩ := hD.hm
  have d1 := hD.h1
  have d2 := hD.h2
  have d3 := hD.h3
  have d4 := hD.h4
  refine ACalls.of_ev (E := Tryz.E 82 (fun _ => ([], [])) fs16) (Tryz.envOK 82 (fun _ => ([], [])) fs16 fs16_ok) Tryz.kp84 Tryz.func84 rfl (by kernel_rfl) (by simp [Tryz.E]) (Callable.of Tryz.func84 (by kernel_rfl) (by kernel_rfl)) (by kernel_rfl) ?_
  cases hg : mget m0 (now : Int) with
  | some v =>
    obtain ⟨now', e1, e2⟩ := hmok _ (mget_mem hg)
    simp only at e1 e2
    have e1' : now' = now := by omega
    subst e1'
    subst e2
    simp -implicitDefEqProofs (maxSteps := 2000000) (disch := omega) only [go_sem, reduceCtorEq, Nat.reduceAdd, Nat.reduceSub, Nat.reduceMul, Nat.reduceLT, Nat.reduceLeDiff, Nat.reduceEqDiff, Nat.reduceBEq, Int.reduceToNat, Int.reduceLT, Int.reduceLE, Int.reduceEq, Int.reduceNeg, Int.reduceAdd, Int.reduceSub, Int.reduceMul, ↓reduceIte, Int.reduceBEq, Int.reduceBNe, d1, hm0, hg]
    exact hQ σ Sm.refl hD
  | none =>
  simp -implicitDefEqProofs (maxSteps := 2000000) (disch := omega) only [go_sem, reduceCtorEq, Nat.reduceAdd, Nat.reduceSub, Nat.reduceMul, Nat.reduceLT, Nat.reduceLeDiff, Nat.reduceEqDiff, Nat.reduceBEq, Int.reduceToNat, Int.reduceLT, Int.reduceLE, Int.reduceEq, Int.reduceNeg, Int.reduceAdd, Int.reduceSub, Int.reduceMul, ↓reduceIte, Int.reduceBEq, Int.reduceBNe, d1, d2, hm0, hg]
  have hlz : L.zipIdx.length = L.length := List.length_zipIdx
  refine ARun.forG (Tryz.envOK 82 (fun _ => ([], [])) fs16 fs16_ok) L.length (fun _ => True) (fun i => [(9, .int .u64 (((L.zipIdx.take i).foldl (modS now) 0 : Nat) : Int)), (29, .int .i64 i)]) (fun _ j => σ ++ j) [] (by kernel_rfl) (by kernel_rfl) (by simp) (by simp [upd, ins, subF, lookA]) trivial ?_ ?_
  · intro K Q' hK i j hi _ ih
    have hz : i < L.zipIdx.length := by omega
    have hzi : L.zipIdx[i] = (L[i], i) := by simp
    have hb := (modM_inv (now := now) hmo i (by omega)).1
    rw [foldl_take _ _ _ _ hz, hzi] at ih
    have hS : ∀ b, modS now b (L[i], i) = if now.testBit i then b ||| 2 ^ L[i].model.toNat else b := fun _ => rfl
    rw [hS] at ih
    generalize (L.zipIdx.take i).foldl (modS now) 0 = b at ih hb ⊢
    have hma : L[i].av = .agg [.int .i64 L[i].model, .int .i64 L[i].year, .int .i64 L[i].a, .int .i64 L[i].b, .int .i64 L[i].c, .int .i64 L[i].d, .int .i64 L[i].nums.lo, .int .i64 L[i].nums.hi] := rfl
    have hidx : idx (L.map Made.av) (i : Int) = some L[i].av := idx_nat hi
    have hmi := hmo _ (List.getElem_mem hi)
    generalize L[i] = m at ih hma hidx hmi
    clear hQ IH hmok hD hm0 d1 d2 d3 d4
    cases hb2 : now.testBit i
    · rw [hb2] at ih
      simp -implicitDefEqProofs (maxSteps := 2000000) (disch := omega) only [go_sem, reduceCtorEq, Nat.reduceAdd, Nat.reduceSub, Nat.reduceMul, Nat.reduceLT, Nat.reduceLeDiff, Nat.reduceEqDiff, Nat.reduceBEq, Int.reduceToNat, Int.reduceLT, Int.reduceLE, Int.reduceEq, Int.reduceNeg, Int.reduceAdd, Int.reduceSub, Int.reduceMul, ↓reduceIte, Int.reduceBEq, Int.reduceBNe, hidx, hma, hb2]
      exact (ih trivial (j ++ [.cells m.cells])).castS (by simp [Made.cells]) (by simp [upd, ins, subF, lookA])
    · rw [hb2] at ih
      simp -implicitDefEqProofs (maxSteps := 2000000) (disch := omega) only [go_sem, reduceCtorEq, Nat.reduceAdd, Nat.reduceSub, Nat.reduceMul, Nat.reduceLT, Nat.reduceLeDiff, Nat.reduceEqDiff, Nat.reduceBEq, Int.reduceToNat, Int.reduceLT, Int.reduceLE, Int.reduceEq, Int.reduceNeg, Int.reduceAdd, Int.reduceSub, Int.reduceMul, ↓reduceIte, Int.reduceBEq, Int.reduceBNe, hidx, hma, hb2]
      exact (ih trivial (j ++ [.cells m.cells])).castS (by simp [Made.cells]) (by simp [upd, ins, subF, lookA])
  · intro j _
    have hpop := modM_pop (now := now) hmo
    have hlt := (modM_inv (now := now) hmo L.length (Nat.le_refl _)).1
    have etk : L.zipIdx.take L.length = L.zipIdx := List.take_of_length_le (by omega)
    rw [etk] at hlt ⊢
    change (modM now L) < 16 at hlt
    rw [show L.zipIdx.foldl (modS now) 0 = modM now L from rfl]
    have hneed := needL_eq (F := F) hne
    generalize modM now L = b at hpop hlt ⊢
    generalize hT : selL L now = T at hpop hneed hne hlen hQ
    have hlk := fun f => looksG_len (L := L) (now := now) (f := f)
    rw [hT] at hlk
    clear hm0 hmok hg
    have hDj : DH L F a1 a2 a3 a4 mr (σ ++ j) := hD.app
    have hSj : Sm mr σ (σ ++ j) := Sm.refl.app
    generalize σ ++ j = τ0 at hDj hSj ⊢
    have e3 := hDj.h3
    have hisF : isv F = .list .no 1 (F.map (.int .i64)) := rfl
    rw [hisF] at e3
    refine' ARun.cutP (α := Nat) (fun b0 => b0 = if modN T = 1 then 0 else 5) (fun b0 => [(0, .int .u64 (now : Int)), (1, .ptr a1 0), (2, .ptr a2 0), (3, .ptr a3 0), (4, .ptr a4 0), (6, .int .i64 0), (12, .int .i64 (b0 : Int)), (45, .list .no 1 (F.map (.int .i64))), (46, .int .i64 (F.length : Int)), (47, .int .i64 0)]) (fun _ => τ0) (fun hG => ?way) ?rest
    case way =>
      by_cases hmn : modN T = 1
      · rw [hmn] at hpop
        simp -implicitDefEqProofs (maxSteps := 2000000) (disch := omega) only [go_sem, reduceCtorEq, Nat.reduceAdd, Nat.reduceSub, Nat.reduceMul, Nat.reduceLT, Nat.reduceLeDiff, Nat.reduceEqDiff, Nat.reduceBEq, Int.reduceToNat, Int.reduceLT, Int.reduceLE, Int.reduceEq, Int.reduceNeg, Int.reduceAdd, Int.reduceSub, Int.reduceMul, ↓reduceIte, Int.reduceBEq, Int.reduceBNe, hpop, e3]
        exact (hG 0 (by rw [if_pos hmn])).castS rfl (by simp [upd, ins, subF, lookA])
      · have hmn' : ¬ popN b = 1 := by omega
        simp -implicitDefEqProofs (maxSteps := 2000000) (disch := omega) only [go_sem, reduceCtorEq, Nat.reduceAdd, Nat.reduceSub, Nat.reduceMul, Nat.reduceLT, Nat.reduceLeDiff, Nat.reduceEqDiff, Nat.reduceBEq, Int.reduceToNat, Int.reduceLT, Int.reduceLE, Int.reduceEq, Int.reduceNeg, Int.reduceAdd, Int.reduceSub, Int.reduceMul, ↓reduceIte, Int.reduceBEq, Int.reduceBNe, hpop, e3]
        exact (hG 5 (by rw [if_neg hmn])).castS rfl (by simp [upd, ins, subF, lookA])
    case rest =>
    rintro b0 hb0
    rw [← hb0] at hneed
    have hb5 : b0 ≤ 5 := by rw [hb0]; split <;> omega
    clear hb0 hpop hlt e3
    refine ARun.countA F.length (fun i τ => Sm mr σ τ ∧ DH L F a1 a2 a3 a4 mr τ) (fun i => [(12, .int .i64 (((F.take i).foldl (needS (needL F) T) b0 : Nat) : Int)), (47, .int .i64 i)]) (by simp [upd, ins, subF, lookA]) ⟨hSj, hDj⟩ ?_ ?_
    · rintro i τ hi ⟨g1, g2⟩ ih
      have hfi := hFm _ (List.getElem_mem hi)
      have hidx : idx (F.map (AV.int .i64)) (i : Int) = some (.int .i64 F[i]) := idx_nat hi
      have hacc : (F.take i).foldl (needS (needL F) T) b0 ≤ 5 := by
        have : ∀ (G : List Int) b, b ≤ 5 → G.foldl (needS (needL F) T) b ≤ 5 := fun G => by
          intro b hb; exact needS_le (F := G) b hb
        exact this _ _ hb5
      rw [foldl_take _ _ _ _ hi] at ih
      generalize (F.take i).foldl (needS (needL F) T) b0 = acc at ih hacc ⊢
      generalize F[i] = f at hfi hidx ih
      have e2 := g2.h2
      have hlf := hlk f
      have hG := looksG (L := L) (now := now) (f := f)
      have hwm := worst_map (L := L) (now := now) (f := f) (g := needL F)
      have hpt := fun p (hp : p ∈ looksM now L f) => looksG_part (L := L) (now := now) (f := f) hp
      have hky := fun v => looksG_keys (L := L) (now := now) (f := f) (v := v)
      rw [hT] at hwm hpt hky
      refine ev_sound (Tryz.envOK 82 (fun _ => ([], [])) fs16 fs16_ok) (n := 12) (by kernel_rfl) ?_
      simp -implicitDefEqProofs (maxSteps := 2000000) (disch := omega) only [go_sem, reduceCtorEq, Nat.reduceAdd, Nat.reduceSub, Nat.reduceMul, Nat.reduceLT, Nat.reduceLeDiff, Nat.reduceEqDiff, Nat.reduceBEq, Int.reduceToNat, Int.reduceLT, Int.reduceLE, Int.reduceEq, Int.reduceNeg, Int.reduceAdd, Int.reduceSub, Int.reduceMul, ↓reduceIte, Int.reduceBEq, Int.reduceBNe, hidx, e2]
      refine looks_c now L f hnw hL hfi _ _ fun j2 => ?_
      simp -implicitDefEqProofs (maxSteps := 2000000) (disch := omega) only [go_sem, reduceCtorEq, Nat.reduceAdd, Nat.reduceSub, Nat.reduceMul, Nat.reduceLT, Nat.reduceLeDiff, Nat.reduceEqDiff, Nat.reduceBEq, Int.reduceToNat, Int.reduceLT, Int.reduceLE, Int.reduceEq, Int.reduceNeg, Int.reduceAdd, Int.reduceSub, Int.reduceMul, ↓reduceIte, Int.reduceBEq, Int.reduceBNe]
      change ARun _ _ _ _ _ _
      refine ARun.seq (ARun.regionM (Tryz.envOK 82 (fun _ => ([], [])) fs16 fs16_ok) 4 ?_)
      generalize looksM now L f = m at hlf hG hwm hpt hky ⊢
      have hml : (mapU m).length = m.length := by simp [mapU]
      have hmp : ∀ X, hget (τ ++ (.map (mapU m) :: X)) τ.length = some (.map (mapU m)) := fun X => by rw [hget_at0]; rfl
      have hns : needS (needL F) T acc f = if acc = 0 ∨ (valF f T).length = 1 then acc else min acc (worstF (needL F) T f + 1) := rfl
      by_cases hz : acc = 0
      · rw [hns, if_pos (.inl hz)] at ih
        subst hz
        simp -implicitDefEqProofs (maxSteps := 2000000) (disch := omega) only [go_sem, reduceCtorEq, Nat.reduceAdd, Nat.reduceSub, Nat.reduceMul, Nat.reduceLT, Nat.reduceLeDiff, Nat.reduceEqDiff, Nat.reduceBEq, Int.reduceToNat, Int.reduceLT, Int.reduceLE, Int.reduceEq, Int.reduceNeg, Int.reduceAdd, Int.reduceSub, Int.reduceMul, ↓reduceIte, Int.reduceBEq, Int.reduceBNe, hmp, hml]
        refine ev_sound (Tryz.envOK 82 (fun _ => ([], [])) fs16 fs16_ok) (n := 1000) (by kernel_rfl) ?_
        simp -implicitDefEqProofs (maxSteps := 2000000) (disch := omega) only [go_sem, reduceCtorEq, Nat.reduceAdd, Nat.reduceSub, Nat.reduceMul, Nat.reduceLT, Nat.reduceLeDiff, Nat.reduceEqDiff, Nat.reduceBEq, Int.reduceToNat, Int.reduceLT, Int.reduceLE, Int.reduceEq, Int.reduceNeg, Int.reduceAdd, Int.reduceSub, Int.reduceMul, ↓reduceIte, Int.reduceBEq, Int.reduceBNe, hmp, hml]
        exact (ih _ ⟨g1.app, g2.app⟩).castS rfl (by simp [upd, ins, subF, lookA])
      · by_cases h1 : m.length = 1
        · rw [hns, if_pos (.inr (by omega))] at ih
          simp -implicitDefEqProofs (maxSteps := 2000000) (disch := omega) only [go_sem, reduceCtorEq, Nat.reduceAdd, Nat.reduceSub, Nat.reduceMul, Nat.reduceLT, Nat.reduceLeDiff, Nat.reduceEqDiff, Nat.reduceBEq, Int.reduceToNat, Int.reduceLT, Int.reduceLE, Int.reduceEq, Int.reduceNeg, Int.reduceAdd, Int.reduceSub, Int.reduceMul, ↓reduceIte, Int.reduceBEq, Int.reduceBNe, hmp, hml, h1]
          refine ev_sound (Tryz.envOK 82 (fun _ => ([], [])) fs16 fs16_ok) (n := 1000) (by kernel_rfl) ?_
          simp -implicitDefEqProofs (maxSteps := 2000000) (disch := omega) only [go_sem, reduceCtorEq, Nat.reduceAdd, Nat.reduceSub, Nat.reduceMul, Nat.reduceLT, Nat.reduceLeDiff, Nat.reduceEqDiff, Nat.reduceBEq, Int.reduceToNat, Int.reduceLT, Int.reduceLE, Int.reduceEq, Int.reduceNeg, Int.reduceAdd, Int.reduceSub, Int.reduceMul, ↓reduceIte, Int.reduceBEq, Int.reduceBNe, hmp, hml, h1]
          exact (ih _ ⟨g1.app, g2.app⟩).castS rfl (by simp [upd, ins, subF, lookA])
        · rw [hns, if_neg (by omega)] at ih
          have hv1 : (valF f T).length ≠ 1 := by omega
          have hml16 : m.length ≤ 4294967296 := by
            have := valuesZ_len (num := fun m : Made => tg m.look f) (l := T)
            change (valF f T).length ≤ _ at this
            have h2 := selL_len (L := L) (now := now)
            rw [hT] at h2; omega
          simp -implicitDefEqProofs (maxSteps := 2000000) (disch := omega) only [go_sem, reduceCtorEq, Nat.reduceAdd, Nat.reduceSub, Nat.reduceMul, Nat.reduceLT, Nat.reduceLeDiff, Nat.reduceEqDiff, Nat.reduceBEq, Int.reduceToNat, Int.reduceLT, Int.reduceLE, Int.reduceEq, Int.reduceNeg, Int.reduceAdd, Int.reduceSub, Int.reduceMul, ↓reduceIte, Int.reduceBEq, Int.reduceBNe, hmp, hml]
          refine ev_sound (Tryz.envOK 82 (fun _ => ([], [])) fs16 fs16_ok) (n := 1000) (by kernel_rfl) ?_
          simp -implicitDefEqProofs (maxSteps := 2000000) (disch := omega) only [go_sem, reduceCtorEq, Nat.reduceAdd, Nat.reduceSub, Nat.reduceMul, Nat.reduceLT, Nat.reduceLeDiff, Nat.reduceEqDiff, Nat.reduceBEq, Int.reduceToNat, Int.reduceLT, Int.reduceLE, Int.reduceEq, Int.reduceNeg, Int.reduceAdd, Int.reduceSub, Int.reduceMul, ↓reduceIte, Int.reduceBEq, Int.reduceBNe, hmp, hml]
          have hit0 : hget (τ ++ (.map (mapU m) :: (j2 ++ [.iter (some τ.length) m.length []]))) (τ.length + (j2.length + 1)) = some (.iter (some τ.length) m.length []) := by rw [hget_at]; simp
          have hmp0 := hmp (j2 ++ [.iter (some τ.length) m.length []])
          have hit1 : τ.length + 1 ≤ τ.length + (j2.length + 1) := by omega
          have hS2 : Sm mr σ (τ ++ (.map (mapU m) :: (j2 ++ [.iter (some τ.length) m.length []]))) := g1.app
          have hD2 : DH L F a1 a2 a3 a4 mr (τ ++ (.map (mapU m) :: (j2 ++ [.iter (some τ.length) m.length []]))) := g2.app
          generalize τ ++ (.map (mapU m) :: (j2 ++ [.iter (some τ.length) m.length []])) = τ2 at hit0 hmp0 hS2 hD2 ⊢
          generalize τ.length + (j2.length + 1) = it at hit0 hit1 ⊢
          obtain ⟨q1, q2, q3, q4, q5, q6, q7, q8, q9⟩ := g2.ne
          have hgs := g1.1
          refine ARun.loopJ (Tryz.envOK 82 (fun _ => ([], [])) fs16 fs16_ok) (α := List Nat × Nat) (fun a => m.length - a.1.length) (fun a τ' => (hget τ' it = some (.iter (some τ.length) m.length a.1) ∧ hget τ' τ.length = some (.map (mapU m)) ∧ Sm mr σ τ' ∧ DH L F a1 a2 a3 a4 mr τ') ∧ a.1.Nodup ∧ (∀ i ∈ a.1, ∃ p, m[i]? = some p ∧ needL F (selL L p.2) ≤ a.2) ∧ (a.2 = 0 ∨ ∃ p ∈ m, needL F (selL L p.2) = a.2)) (fun a => [(16, .int .i64 (a.2 : Int))]) ([], 0) (by kernel_rfl) (by simp [upd, ins, subF, lookA]) ⟨⟨hit0, hmp0, hS2, hD2⟩, by simp, by simp, .inl rfl⟩ ?_
          clear hit0 hmp0 hS2 hD2
          rintro ⟨seen, w⟩ τ' ⟨⟨k1, k2, k3, k4⟩, j7, j8, j9⟩ ih3
          simp only at k1 k2 k3 k4 j7 j8 j9 ih3
          have hw5 : w ≤ 5 := by
            rcases j9 with rfl | ⟨p, hp, rfl⟩
            · omega
            · exact needL_le
          simp -implicitDefEqProofs (maxSteps := 2000000) (disch := omega) only [go_sem, reduceCtorEq, Nat.reduceAdd, Nat.reduceSub, Nat.reduceMul, Nat.reduceLT, Nat.reduceLeDiff, Nat.reduceEqDiff, Nat.reduceBEq, Int.reduceToNat, Int.reduceLT, Int.reduceLE, Int.reduceEq, Int.reduceNeg, Int.reduceAdd, Int.reduceSub, Int.reduceMul, ↓reduceIte, Int.reduceBEq, Int.reduceBNe]
          refine nextA_intro k1 k2 hml.symm (fun i2 k v hi2 hns => ?_) (fun hall => ?_)
          · obtain ⟨p, hp, hkv⟩ : ∃ p, m[i2]? = some p ∧ (AV.int .i64 p.1, AV.int .u64 (p.2 : Int)) = (k, v) := by simpa [mapU] using hi2
            simp only [Prod.mk.injEq] at hkv
            obtain ⟨rfl, rfl⟩ := hkv
            have hpm : p ∈ m := List.mem_of_getElem? hp
            have hgl : (seen ++ [i2]).getLast? = some i2 := by simp
            have hil := (List.getElem?_eq_some_iff.1 hp).1
            have hnd : (seen ++ [i2]).Nodup := by
              rw [List.nodup_append]
              exact ⟨j7, by simp, fun a ha b hb e => by simp at hb; subst hb; exact hns (e ▸ ha)⟩
            have hcard := nodup_lt hnd (n := m.length) fun i3 h3 => by
              rcases List.mem_append.1 h3 with h3 | h3
              · obtain ⟨p', hp', _⟩ := j8 i3 h3; exact (List.getElem?_eq_some_iff.1 hp').1
              · simp at h3; subst h3; exact hil
            rw [List.length_append, List.length_singleton] at hcard
            have hlt' : it < τ'.length := hget_lt k1
            have hk1 : hget (hset τ' it (.iter (some τ.length) m.length (seen ++ [i2]))) it = some (.iter (some τ.length) m.length (seen ++ [i2])) := hget_set k1 _
            have hk2 : hget (hset τ' it (.iter (some τ.length) m.length (seen ++ [i2]))) τ.length = some (.map (mapU m)) := by rw [hget_ne (by omega)]; exact k2
            have hD3 : DH L F a1 a2 a3 a4 mr (hset τ' it (.iter (some τ.length) m.length (seen ++ [i2]))) := k4.set (by omega) (by omega) (by omega) (by omega) (by omega)
            have hS3 : Sm mr σ (hset τ' it (.iter (some τ.length) m.length (seen ++ [i2]))) := k3.set (.inl (by omega))
            have hlt3 : τ.length < (hset τ' it (.iter (some τ.length) m.length (seen ++ [i2]))).length := by rw [length_hset]; exact hget_lt k2
            have hlt4 : it < (hset τ' it (.iter (some τ.length) m.length (seen ++ [i2]))).length := by rw [length_hset]; exact hlt'
            generalize hset τ' it (.iter (some τ.length) m.length (seen ++ [i2])) = τ3 at hk1 hk2 hD3 hS3 hlt3 hlt4 ⊢
            have e4 := hD3.h4
            have hpv : p.1 ∈ valF f T := (hky p.1).1 (List.mem_map.2 ⟨p, hpm, rfl⟩)
            have hpa := hpt p hpm
            have hpb := (hG.bit p hpm).1
            simp -implicitDefEqProofs (maxSteps := 2000000) (disch := omega) only [go_sem, reduceCtorEq, Nat.reduceAdd, Nat.reduceSub, Nat.reduceMul, Nat.reduceLT, Nat.reduceLeDiff, Nat.reduceEqDiff, Nat.reduceBEq, Int.reduceToNat, Int.reduceLT, Int.reduceLE, Int.reduceEq, Int.reduceNeg, Int.reduceAdd, Int.reduceSub, Int.reduceMul, ↓reduceIte, Int.reduceBEq, Int.reduceBNe, hk1, hk2, hgl, hi2, hml, e4]
            refine IH p.2 hpb (by rw [hpa]; exact partL_ne hpv) (by rw [hpa]; have := partL_lt hv1 hpv; omega) τ3 hD3 _ fun σ' hs hd => ?_
            have hle5 : needL F (selL L p.2) ≤ 5 := needL_le
            generalize hgq : needL F (selL L p.2) = gq at hle5 ⊢
            simp -implicitDefEqProofs (maxSteps := 2000000) (disch := omega) only [go_sem, reduceCtorEq, Nat.reduceAdd, Nat.reduceSub, Nat.reduceMul, Nat.reduceLT, Nat.reduceLeDiff, Nat.reduceEqDiff, Nat.reduceBEq, Int.reduceToNat, Int.reduceLT, Int.reduceLE, Int.reduceEq, Int.reduceNeg, Int.reduceAdd, Int.reduceSub, Int.reduceMul, ↓reduceIte, Int.reduceBEq, Int.reduceBNe]
            refine (ih3 (seen ++ [i2], max w gq) _ (by simp only [List.length_append, List.length_cons, List.length_nil]; omega) ⟨⟨by rw [hs.2 _ hlt4 (by omega)]; exact hk1, by rw [hs.2 _ hlt3 (by omega)]; exact hk2, hS3.trans hs, hd⟩, hnd, fun i3 h3 => ?_, ?_⟩).castS rfl ?_
            · rcases List.mem_append.1 h3 with h3 | h3
              · obtain ⟨p', hp', hle⟩ := j8 i3 h3; exact ⟨p', hp', by simp only; omega⟩
              · simp at h3; subst h3; exact ⟨p, hp, by simp only; omega⟩
            · simp only
              by_cases hc : w < gq
              · rw [Nat.max_eq_right (by omega)]; exact .inr ⟨p, hpm, hgq⟩
              · rw [Nat.max_eq_left (by omega)]; exact j9
            · have hmx : (if w < gq then (gq : Int) else (w : Int)) = ((max w gq : Nat) : Int) := by split <;> omega
              simp [upd, ins, subF, lookA, hmx]
          · have hfin : worstF (needL F) T f = w := by
              rw [← hwm]
              refine max_take (fun i3 hi3 => ?_) j9
              obtain ⟨p', hp', hle⟩ := j8 i3 (hall i3 (by rw [hml]; exact hi3))
              rw [List.getElem?_eq_getElem hi3] at hp'
              simp only [Option.some.injEq] at hp'
              subst hp'; exact hle
            rw [hfin] at ih
            simp -implicitDefEqProofs (maxSteps := 2000000) (disch := omega) only [go_sem, reduceCtorEq, Nat.reduceAdd, Nat.reduceSub, Nat.reduceMul, Nat.reduceLT, Nat.reduceLeDiff, Nat.reduceEqDiff, Nat.reduceBEq, Int.reduceToNat, Int.reduceLT, Int.reduceLE, Int.reduceEq, Int.reduceNeg, Int.reduceAdd, Int.reduceSub, Int.reduceMul, ↓reduceIte, Int.reduceBEq, Int.reduceBNe, minA, minL]
            have hmn : (if (w : Int) + 1 < (acc : Int) then (w : Int) + 1 else (acc : Int)) = ((min acc (w + 1) : Nat) : Int) := by split <;> omega
            exact (ih τ' ⟨k3, k4⟩).castS rfl (by simp [upd, ins, subF, lookA, hmn])
    · rintro τ ⟨g1, g2⟩
      rw [List.take_length, ← hneed]
      refine ev_sound (Tryz.envOK 82 (fun _ => ([], [])) fs16 fs16_ok) (n := 1000) (by kernel_rfl) ?_
      obtain ⟨m, hm, hmok⟩ := g2.hm
      have e1 := g2.h1
      obtain ⟨q1, q2, q3, q4, q5, q6, q7, q8, q9⟩ := g2.ne
      simp -implicitDefEqProofs (maxSteps := 2000000) (disch := omega) only [go_sem, reduceCtorEq, Nat.reduceAdd, Nat.reduceSub, Nat.reduceMul, Nat.reduceLT, Nat.reduceLeDiff, Nat.reduceEqDiff, Nat.reduceBEq, Int.reduceToNat, Int.reduceLT, Int.reduceLE, Int.reduceEq, Int.reduceNeg, Int.reduceAdd, Int.reduceSub, Int.reduceMul, ↓reduceIte, Int.reduceBEq, Int.reduceBNe, e1, hm]
      refine hQ _ (g1.set (.inr rfl)) ⟨by rw [hget_ne (by omega)]; exact e1, by rw [hget_ne (by omega)]; exact g2.h2, by rw [hget_ne (by omega)]; exact g2.h3, by rw [hget_ne (by omega)]; exact g2.h4, _, hget_set hm _, fun p hp => ?_⟩
      rcases mset_mem hp with rfl | hp
      · exact ⟨now, rfl, by rw [hT]⟩
      · exact hmok p hp
end Go.Proofs
set_option linter.unusedSimpArgs false
set_option linter.unusedVariables false
set_option maxRecDepth 100000
namespace Go.Proofs
open Go Go.Mu

/-- About how many features somebody has to find out. -/
def decM (c : Cat) (o : Old) : Int × Int :=
  if (knownM c o []).2 = 0 then
    if 5 ≤ needL (lostL o.seen) (truthsM c o) then (0, 11) else ((needL (lostL o.seen) (truthsM c o) : Int), 0)
  else (0, (knownM c o []).2)
theorem made_model {c : Cat} {m : Made} (hC : OkC c) (h : m ∈ allMade c) : 0 ≤ m.model ∧ m.model < 4 := by
  obtain ⟨i, k, hi, hk, rfl⟩ := all_mem h
  have := hC.models
  have e : (madeOf i (c.models.getD i default) k).model = (i : Int) := rfl
  omega
theorem hget_nth {σ l : List AObj} {k : Nat} {o : AObj} (h : l[k]? = some o) : hget (σ ++ l) (σ.length + k) = some o := by rw [hget_at]; exact h
set_option maxHeartbeats 40000000 in
theorem pDecides_p (c : Cat) (o : Old) (hc : okCat c) (ho : okOld o) : PureV Tryz.prog 40 [c.av, o.av] (.tup [.int .i64 (decM c o).1, .int .i64 (decM c o).2]) := by
  refine PureV.of_ev (E := Tryz.E 32 Tryz.ord40 fs16) (Tryz.envOK 32 Tryz.ord40 fs16 fs16_ok) (ii_plain) Tryz.kp40 Tryz.func40 rfl (by kernel_rfl) (by simp [Tryz.E]) (Callable.of Tryz.func40 (by kernel_rfl) (by kernel_rfl)) (by kernel_rfl) ?_
  intro σ
  simp only [Cat.av, Old.av]
  by_cases hk : (knownM c o []).2 = 0
  · obtain ⟨hv, hne, hke⟩ := knownM_ok hk
    obtain ⟨hC, hO⟩ := okO_of_ck hv
    have hlen := truthsM_len (o := o) hC
    have hos := ho.1
    have hsn : o.seen.length ≤ 4 := seen_len hC hO
    have hll : (lostL o.seen).length ≤ 4 := by unfold lostL; rw [List.length_map]; exact Nat.le_trans (List.length_filter_le _ _) (by simpa using hsn)
    have hlm := fun f (h : f ∈ lostL o.seen) => lostL_mem h
    have hmm : ∀ m ∈ truthsM c o, 0 ≤ m.model ∧ m.model < 4 := fun m hm => made_model hC (mem_truths.1 hm).1
    have hr : decM c o = if 5 ≤ needL (lostL o.seen) (truthsM c o) then (0, 11) else ((needL (lostL o.seen) (truthsM c o) : Int), 0) := by unfold decM; rw [if_pos hk]
    rw [hr]
    have hFm : ∀ f ∈ lostL o.seen, 0 ≤ f ∧ f < 4 := fun f hf => by have := hlm f hf; omega
    clear hr hlm
    generalize hF : lostL o.seen = F at hll hFm ⊢
    simp -implicitDefEqProofs (maxSteps := 2000000) (disch := omega) only [go_sem, reduceCtorEq, Nat.reduceAdd, Nat.reduceSub, Nat.reduceMul, Nat.reduceLT, Nat.reduceLeDiff, Nat.reduceEqDiff, Nat.reduceBEq, Int.reduceToNat, Int.reduceLT, Int.reduceLE, Int.reduceEq, Int.reduceNeg, Int.reduceAdd, Int.reduceSub, Int.reduceMul, ↓reduceIte, Int.reduceBEq, Int.reduceBNe, Cat_eta, Old_eta, hc, ho, hke, hos, isv, hF]
    generalize truthsM c o = L at hlen hmm hne ⊢
    have hsw : selL L (2 ^ L.length - 1) = L := selL_whole
    refine needs_c (a1 := σ.length + 5) (a2 := σ.length + 2) (a3 := σ.length + 3) (a4 := σ.length + 6) (mr := σ.length + 4) hlen hmm hll hFm L.length (2 ^ L.length - 1) (by have := Nat.two_pow_pos L.length; omega) (by rw [hsw]; exact hne) (by rw [hsw]; exact Nat.le_refl _) _ ⟨hget_nth rfl, hget_nth rfl, hget_nth rfl, hget_nth rfl, [], hget_nth rfl, fun p hp => by simp at hp⟩ _ fun σ' hs hd => ?_
    rw [hsw]
    have hn5 := needL_le (F := F) (T := L)
    have hsz := hs.1
    have hsame := hs.2
    simp only [List.length_append, List.length_cons, List.length_nil] at hsz hsame
    generalize needL F L = n at hn5 ⊢
    by_cases h5 : 5 ≤ n
    · rw [if_pos h5]
      simp -implicitDefEqProofs (maxSteps := 2000000) (disch := omega) only [go_sem, reduceCtorEq, Nat.reduceAdd, Nat.reduceSub, Nat.reduceMul, Nat.reduceLT, Nat.reduceLeDiff, Nat.reduceEqDiff, Nat.reduceBEq, Int.reduceToNat, Int.reduceLT, Int.reduceLE, Int.reduceEq, Int.reduceNeg, Int.reduceAdd, Int.reduceSub, Int.reduceMul, ↓reduceIte, Int.reduceBEq, Int.reduceBNe]
      exact gives_same (by omega) (fun q hq => by rw [hsame q (by omega) (by omega), hget_app hq]) (by simp [wk, wkL, wk1, wk0])
    · rw [if_neg h5]
      simp -implicitDefEqProofs (maxSteps := 2000000) (disch := omega) only [go_sem, reduceCtorEq, Nat.reduceAdd, Nat.reduceSub, Nat.reduceMul, Nat.reduceLT, Nat.reduceLeDiff, Nat.reduceEqDiff, Nat.reduceBEq, Int.reduceToNat, Int.reduceLT, Int.reduceLE, Int.reduceEq, Int.reduceNeg, Int.reduceAdd, Int.reduceSub, Int.reduceMul, ↓reduceIte, Int.reduceBEq, Int.reduceBNe]
      exact gives_same (by omega) (fun q hq => by rw [hsame q (by omega) (by omega), hget_app hq]) (by simp [wk, wkL, wk1, wk0])
  · have hr : decM c o = (0, (knownM c o []).2) := by unfold decM; rw [if_neg hk]
    rw [hr]
    simp -implicitDefEqProofs (maxSteps := 2000000) (disch := omega) only [go_sem, reduceCtorEq, Nat.reduceAdd, Nat.reduceSub, Nat.reduceMul, Nat.reduceLT, Nat.reduceLeDiff, Nat.reduceEqDiff, Nat.reduceBEq, Int.reduceToNat, Int.reduceLT, Int.reduceLE, Int.reduceEq, Int.reduceNeg, Int.reduceAdd, Int.reduceSub, Int.reduceMul, ↓reduceIte, Int.reduceBEq, Int.reduceBNe, Cat_eta, Old_eta, hc, ho, hk, isv]
def pDecides_s := spw2 tyCat.w tyOld.w fun c o => if okCat c ∧ okOld o then some (.tup [.int .i64 (decM c o).1, .int .i64 (decM c o).2]) else none
theorem pDecides_ok : ∀ xs v, pDecides_s xs = some v → PureV Tryz.prog 40 xs v :=
  spw2_ok fun c o v h => by have h := someIf h; rw [← h.2]; exact pDecides_p c o h.1.1 h.1.2
end Go.Proofs
