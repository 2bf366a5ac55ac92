/- Texts of a proof: lemmas. -/
import Derived.Test.YtpodkdondibbfaaAB
set_option linter.unusedSimpArgs false
set_option linter.unusedVariables false
set_option maxRecDepth 100000
namespace Go.Proofs
open Go Go.Mu

/-- Whether readings are true of some tones. -/
def fitsR (sl : Int) (rs : List Rd) (t : List Int) : Bool := rs.all fun r => isR r sl t
/-- All tones of tongues. -/
def allC (ts : List Rng) : List (List Int) := truthsL ⟨0, ts, []⟩
theorem allT_filter (sl sl' : Int) (ts : List Rng) (rs : List Rd) : ∀ (m : Nat) (t : List Int) (a : Nat), allT ⟨sl, ts, rs⟩ m t a = (allT ⟨sl', ts, []⟩ m t a).filter (fitsR sl rs)
  | 0, t, a => by
    simp only [allT, List.all_nil, if_true]
    by_cases h : (rs.all fun r => isR r sl t) = true
    · rw [if_pos h]; simp [fitsR, h]
    · rw [if_neg h]; simp [fitsR, h]
  | m + 1, t, a => by
    simp only [allT, List.filter_flatMap]
    congr 1
    funext k
    exact allT_filter sl sl' ts rs m _ _
theorem truthsL_filter (e : Ear) : truthsL e = (allC e.tones).filter (fitsR e.slack e.rds) := allT_filter e.slack 0 e.tones e.rds _ _ _
theorem fitsR_append {sl : Int} {a b : List Rd} {t : List Int} : fitsR sl (a ++ b) t = (fitsR sl a t && fitsR sl b t) := by simp [fitsR]
/-- One reading more. -/
theorem truthsL_more (sl : Int) (ts : List Rng) (rs : List Rd) (r : Rd) : truthsL ⟨sl, ts, rs ++ [r]⟩ = (truthsL ⟨sl, ts, rs⟩).filter (isR r sl) := by
  rw [truthsL_filter, truthsL_filter, List.filter_filter]
  congr 1
  funext t
  rw [fitsR_append, Bool.and_comm]
  congr 1
  simp [fitsR]
theorem tg_setI {t : List Int} {a : Nat} {x : Int} (h : a < t.length) (i : Nat) : tg (setI t a x) i = if i = a then x else tg t i := by
  simp only [tg, setI, List.getD, Int.toNat_natCast, List.getElem?_set]
  by_cases e : a = i
  · subst e; simp [h]
  · rw [if_neg e, if_neg (fun h => e h.symm)]
/-- Which tones are gone through. -/
theorem mem_allT (ts : List Rng) : ∀ (m : Nat) (t : List Int) (a : Nat), a + m = ts.length → ts.length ≤ t.length → ∀ u, u ∈ allT ⟨0, ts, []⟩ m t a ↔ u.length = t.length ∧ ∀ i, (h : i < t.length) → if a ≤ i ∧ i < ts.length then (ts.getD i default).lo ≤ tg u i ∧ tg u i ≤ (ts.getD i default).hi else tg u i = tg t i
  | 0, t, a, ha, hl, u => by
    simp only [allT, List.all_nil, if_true, List.mem_singleton]
    constructor
    · rintro rfl
      refine ⟨rfl, fun i h => ?_⟩
      rw [if_neg (by omega)]
    · rintro ⟨h1, h2⟩
      apply List.ext_getElem h1
      intro i h3 h4
      have := h2 i h4
      rw [if_neg (by omega), tgE h3, tgE h4] at this
      exact this
  | m + 1, t, a, ha, hl, u => by
    simp only [allT, List.mem_flatMap, List.mem_range]
    have hat : a < t.length := by omega
    constructor
    · rintro ⟨k, hk, hu⟩
      obtain ⟨h1, h2⟩ := (mem_allT ts m _ (a + 1) (by omega) (by rw [setI_len]; exact hl) u).1 hu
      rw [setI_len] at h1
      refine ⟨h1, fun i h => ?_⟩
      have := h2 i (by rw [setI_len]; exact h)
      rw [tg_setI hat] at this
      by_cases e : i = a
      · subst e
        rw [if_neg (by omega), if_pos rfl] at this
        rw [if_pos (by omega)]
        omega
      · rw [if_neg e] at this
        by_cases h3 : a ≤ i ∧ i < ts.length
        · rw [if_pos h3]; rw [if_pos (by omega)] at this; exact this
        · rw [if_neg h3]; rw [if_neg (by omega)] at this; exact this
    · rintro ⟨h1, h2⟩
      have h3 := h2 a hat
      rw [if_pos (by omega)] at h3
      refine ⟨(tg u a - (ts.getD a default).lo).toNat, by omega, ?_⟩
      rw [Int.toNat_of_nonneg (by omega)]
      refine (mem_allT ts m _ (a + 1) (by omega) (by rw [setI_len]; exact hl) u).2 ⟨by rw [setI_len]; exact h1, fun i h => ?_⟩
      rw [setI_len] at h
      have := h2 i h
      rw [tg_setI hat]
      by_cases e : i = a
      · subst e; rw [if_neg (by omega), if_pos rfl]; omega
      · rw [if_neg e]
        by_cases h3 : a ≤ i ∧ i < ts.length
        · rw [if_pos h3] at this; rw [if_pos (by omega)]; exact this
        · rw [if_neg h3] at this; rw [if_neg (by omega)]; exact this
theorem mem_allC {ts : List Rng} (hl : ts.length ≤ 3) (u : List Int) : u ∈ allC ts ↔ u.length = 3 ∧ ∀ i, i < 3 → if i < ts.length then (ts.getD i default).lo ≤ tg u i ∧ tg u i ≤ (ts.getD i default).hi else tg u i = 0 := by
  unfold allC truthsL
  rw [mem_allT ts ts.length [0, 0, 0] 0 (by omega) hl u]
  have hz : ∀ i, i < 3 → tg [0, 0, 0] (i : Nat) = 0 := fun i h => by
    rcases (by omega : i = 0 ∨ i = 1 ∨ i = 2) with rfl | rfl | rfl <;> rfl
  constructor
  · rintro ⟨h1, h2⟩
    refine ⟨h1, fun i h => ?_⟩
    have := h2 i h
    rw [hz i h] at this
    by_cases h3 : i < ts.length
    · rw [if_pos h3]; rw [if_pos ⟨Nat.zero_le _, h3⟩] at this; exact this
    · rw [if_neg h3]; rw [if_neg (by omega)] at this; exact this
  · rintro ⟨h1, h2⟩
    refine ⟨h1, fun i h => ?_⟩
    have := h2 i h
    rw [hz i h]
    by_cases h3 : i < ts.length
    · rw [if_pos h3] at this; rw [if_pos ⟨Nat.zero_le _, h3⟩]; exact this
    · rw [if_neg h3] at this; rw [if_neg (by omega)]; exact this
/-- Tones for all places. -/
def padT (T : List Int) : List Int := T ++ List.replicate (3 - T.length) 0
theorem tg_pad (T : List Int) (i : Int) : tg (padT T) i = tg T i := by
  unfold tg padT
  simp only [List.getD, List.getElem?_append, List.getElem?_replicate]
  split
  · rfl
  · rename_i h
    rw [List.getElem?_eq_none (by omega)]
    split <;> rfl
theorem isR_pad (r : Rd) (sl : Int) (T : List Int) : isR r sl (padT T) = isR r sl T := by simp only [isR, tg_pad]
/-- What is true is a truth. -/
theorem EarP.truth {m n w : Int} {e : Ear} {T : List Int} (h : EarP m n w e T) : padT T ∈ truthsL e := by
  have he := okE_of_ck h.ck
  have hl := he.len
  have h1 := h.len
  rw [truthsL_filter, List.mem_filter]
  refine ⟨(mem_allC hl _).2 ⟨by simp [padT]; omega, fun i hi => ?_⟩, ?_⟩
  · rw [tg_pad]
    by_cases h3 : i < e.tones.length
    · rw [if_pos h3, tgE (by omega)]
      have := h.rng i (by omega) h3
      simp only [List.getD, List.getElem?_eq_getElem h3, Option.getD_some]
      omega
    · rw [if_neg h3]
      simp only [tg, List.getD, Int.toNat_natCast]
      rw [List.getElem?_eq_none (by omega)]; rfl
  · unfold fitsR
    rw [List.all_eq_true]
    intro r hr
    rw [isR_pad]; exact h.rd r hr
theorem EarP.known {m n w : Int} {e : Ear} {T : List Int} (h : EarP m n w e T) : knownL e = (truthsL e, 0) ∧ truthsL e ≠ [] := by
  have hn : truthsL e ≠ [] := fun hn => by have := h.truth; rw [hn] at this; cases this
  unfold knownL
  rw [if_neg (by rw [h.ck]; simp), if_neg hn]
  exact ⟨rfl, hn⟩

/-- Where a number stands among outcomes. -/
def outG (m : List (Int × List (List Int))) (c : Int) : List (List Int) := (mget m c).getD []
theorem fIdx_shift {α : Type} {c : Int} : ∀ (m : List (Int × α)) (i j : Nat), (fIdx c m i).map (·.2) = (fIdx c m j).map (·.2)
  | [], _, _ => rfl
  | q :: m, i, j => by simp only [fIdx]; split; rfl; exact fIdx_shift m _ _
theorem mget_cons {α : Type} {c k : Int} {v : α} {m : List (Int × α)} : mget ((k, v) :: m) c = if c = k then some v else mget m c := by
  unfold mget
  simp only [fIdx]
  by_cases e : c = k
  · simp [e]
  · rw [if_neg e, if_neg e]; exact fIdx_shift m _ _
theorem mget_app {α : Type} {c k : Int} {v : α} : ∀ {m : List (Int × α)}, mget m k = none → mget (m ++ [(k, v)]) c = if c = k then some v else mget m c
  | [], _ => by simp [mget_cons, mget, fIdx]
  | (k', v') :: m, h => by
    rw [mget_cons] at h
    rw [List.cons_append, mget_cons, mget_cons]
    by_cases e : k = k'
    · rw [if_pos e] at h; cases h
    · rw [if_neg e] at h
      rw [mget_app h]
      by_cases e2 : c = k'
      · rw [if_pos e2, if_pos e2, if_neg (fun e3 => e (e3.symm.trans e2))]
      · rw [if_neg e2, if_neg e2]
theorem mget_set' {α : Type} {c k : Int} {v w : α} : ∀ {m : List (Int × α)} {i j : Nat}, fIdx k m i = some (j, w) → mget (m.set (j - i) (k, v)) c = if c = k then some v else mget m c
  | [], _, _, h => by cases h
  | (k', v') :: m, i, j, h => by
    simp only [fIdx] at h
    by_cases e : k = k'
    · rw [if_pos e] at h
      simp at h
      obtain ⟨rfl, rfl⟩ := h
      subst e
      rw [Nat.sub_self, List.set_cons_zero, mget_cons, mget_cons]
      split <;> rfl
    · rw [if_neg e] at h
      have hj := (fIdx_get h).1
      have ih := mget_set' (c := c) (v := v) h
      obtain ⟨d, rfl⟩ : ∃ d, j = i + 1 + d := ⟨j - (i + 1), by omega⟩
      have e1 : i + 1 + d - i = d + 1 := by omega
      have e2 : i + 1 + d - (i + 1) = d := by omega
      rw [e2] at ih
      rw [e1, List.set_cons_succ, mget_cons, mget_cons, ih]
      by_cases e3 : c = k'
      · rw [if_pos e3, if_pos e3, if_neg (fun e4 => e (e4.symm.trans e3))]
      · rw [if_neg e3, if_neg e3]
theorem mget_mset' {α : Type} {m : List (Int × α)} {k c : Int} {v : α} : mget (mset m k v) c = if c = k then some v else mget m c := by
  unfold mset
  cases hf : fIdx k m 0 with
  | none => exact mget_app (by unfold mget; rw [hf]; rfl)
  | some q => obtain ⟨j, w⟩ := q; exact mget_set' hf
theorem outG_push {t : List Int} {m : List (Int × List (List Int))} {k c : Int} : outG (pushO t m k) c = if c = k then outG m k ++ [t] else outG m c := by
  unfold outG pushO
  rw [mget_mset']
  split <;> rfl
theorem outG_pushes {t : List Int} {c : Int} : ∀ {ks : List Int} {m : List (Int × List (List Int))}, ks.Nodup → outG (ks.foldl (pushO t) m) c = outG m c ++ (if c ∈ ks then [t] else [])
  | [], m, _ => by simp
  | k :: ks, m, h => by
    rw [List.nodup_cons] at h
    rw [List.foldl_cons, outG_pushes h.2, outG_push]
    by_cases e : c = k
    · subst e; simp [h.1]
    · simp [e]
theorem outG_all {r : Rd} {sl c : Int} (hn : ∀ t, (showsL r sl t).Nodup) : ∀ {l : List (List Int)} {m : List (Int × List (List Int))}, outG (l.foldl (outS r sl) m) c = outG m c ++ l.filter fun t => decide (c ∈ showsL r sl t)
  | [], m => by simp
  | t :: l, m => by
    rw [List.foldl_cons, outG_all hn, outS, outG_pushes (hn t), List.filter_cons]
    by_cases e : c ∈ showsL r sl t
    · simp [e]
    · simp [e]
theorem nodup_map_inj {α β : Type} {f : α → β} (hf : ∀ a b, f a = f b → a = b) : ∀ {l : List α}, l.Nodup → (l.map f).Nodup
  | [], _ => List.nodup_nil
  | a :: l, h => by
    rw [List.nodup_cons] at h
    rw [List.map_cons, List.nodup_cons]
    refine ⟨fun hm => ?_, nodup_map_inj hf h.2⟩
    obtain ⟨b, hb, e⟩ := List.mem_map.1 hm
    exact h.1 (hf _ _ e ▸ hb)
theorem showsL_nodup (r : Rd) (sl : Int) (t : List Int) : (showsL r sl t).Nodup := by
  unfold showsL
  split
  · unfold outAt
    exact List.Pairwise.filter _ (nodup_map_inj (fun a b h => by omega) List.nodup_range)
  · split <;> simp
/-- The truths that an outcome leaves. -/
def outO (r : Rd) (sl : Int) (l : List (List Int)) (c : Int) : List (List Int) := l.filter fun t => decide (c ∈ showsL r sl t)
theorem outG_eq (r : Rd) (sl : Int) (l : List (List Int)) (c : Int) : outG (outcomesL r sl l) c = outO r sl l c := by
  unfold outcomesL
  rw [outG_all (showsL_nodup r sl)]; rfl
theorem mset_keys {α : Type} {m : List (Int × α)} {k : Int} {v : α} (h : (m.map (·.1)).Nodup) : ((mset m k v).map (·.1)).Nodup := by
  unfold mset
  cases hf : fIdx k m 0 with
  | none =>
    simp only [List.map_append, List.map_cons, List.map_nil]
    rw [List.nodup_append]
    refine ⟨h, by simp, fun a ha b hb => ?_⟩
    simp at hb; subst hb
    rintro rfl
    obtain ⟨p, hp, rfl⟩ := List.mem_map.1 ha
    exact absurd hf (by
      have : ∀ (m : List (Int × α)) (i : Nat), p ∈ m → fIdx p.1 m i ≠ none := by
        intro m
        induction m with
        | nil => intro i h; cases h
        | cons q m ih =>
          intro i h
          simp only [fIdx]
          split
          · simp
          · rename_i hne
            rcases List.mem_cons.1 h with rfl | h
            · exact absurd rfl hne
            · exact ih _ h
      exact this m 0 hp)
  | some q =>
    obtain ⟨j, w⟩ := q
    have hj := fIdx_get hf
    simp only [Nat.sub_zero] at hj
    have : (m.set j (k, v)).map (·.1) = m.map (·.1) := by
      rw [List.map_set]
      apply List.ext_getElem?
      intro i
      rw [List.getElem?_set]
      by_cases e : j = i
      · subst e
        obtain ⟨h1, h2⟩ := List.getElem?_eq_some_iff.1 hj.2
        simp [h1, h2]
      · simp [e]
    simp only
    rw [this]; exact h
theorem outcomes_keys {r : Rd} {sl : Int} {l : List (List Int)} : ((outcomesL r sl l).map (·.1)).Nodup := by
  unfold outcomesL
  have key : ∀ (l : List (List Int)) (m : List (Int × List (List Int))), (m.map (·.1)).Nodup → ((l.foldl (outS r sl) m).map (·.1)).Nodup := by
    intro l
    induction l with
    | nil => intro m h; exact h
    | cons t l ih =>
      intro m h
      refine ih _ ?_
      unfold outS
      generalize showsL r sl t = ks
      clear ih
      induction ks generalizing m with
      | nil => exact h
      | cons k ks ih => exact ih _ (mset_keys h)
  exact key l [] List.nodup_nil
theorem mget_of_mem {α : Type} : ∀ {m : List (Int × α)} {p : Int × α}, (m.map (·.1)).Nodup → p ∈ m → mget m p.1 = some p.2
  | q :: m, p, h, hp => by
    obtain ⟨k, v⟩ := q
    rw [List.map_cons, List.nodup_cons] at h
    simp only [mget, fIdx]
    rcases List.mem_cons.1 hp with rfl | hp'
    · simp
    · have hne : p.1 ≠ k := fun e => h.1 (e ▸ List.mem_map.2 ⟨p, hp', rfl⟩)
      rw [if_neg hne]
      have ih := mget_of_mem h.2 hp'
      unfold mget at ih
      have hs : ∀ (m : List (Int × α)) (i j : Nat), (fIdx p.1 m i).map (·.2) = (fIdx p.1 m j).map (·.2) := by
        intro m
        induction m with
        | nil => intro i j; rfl
        | cons q m ih => intro i j; simp only [fIdx]; split; rfl; exact ih _ _
      rw [hs m 1 0]; exact ih
/-- WHAT OUTCOMES ARE: of each number that is shown, the truths of which it is. -/
theorem outcomes_iff {r : Rd} {sl : Int} {l : List (List Int)} {p : Int × List (List Int)} : p ∈ outcomesL r sl l ↔ p.2 = outO r sl l p.1 ∧ p.2 ≠ [] := by
  constructor
  · intro h
    have h1 := mget_of_mem outcomes_keys h
    have h2 := outG_eq r sl l p.1
    unfold outG at h2
    rw [h1] at h2
    exact ⟨h2, (outcomes_sub p h).1⟩
  · rintro ⟨h1, h2⟩
    have h3 := outG_eq r sl l p.1
    unfold outG at h3
    cases hg : mget (outcomesL r sl l) p.1 with
    | none => rw [hg] at h3; rw [← h3] at h1; exact absurd h1 h2
    | some v =>
      rw [hg] at h3
      simp only [Option.getD_some] at h3
      have := mget_mem hg
      rw [h3, ← h1] at this
      exact this
theorem outcomes_all {r : Rd} {sl : Int} {l : List (List Int)} {f : List (List Int) → Bool} : ((outcomesL r sl l).all fun p => f p.2) = true ↔ ∀ c, outO r sl l c ≠ [] → f (outO r sl l c) = true := by
  rw [List.all_eq_true]
  constructor
  · intro h c hc
    exact h (c, outO r sl l c) (outcomes_iff.2 ⟨rfl, hc⟩)
  · intro h p hp
    obtain ⟨h1, h2⟩ := outcomes_iff.1 hp
    rw [h1]; exact h p.1 (h1 ▸ h2)
/-- What a count shows. -/
theorem mem_shows_count {r : Rd} {sl c : Int} {t : List Int} (hk : r.kind = 1) (hsl : 0 ≤ sl) (hn : 0 ≤ tg t r.a * r.sec) : c ∈ showsL r sl t ↔ (0 ≤ c ∧ c ≤ 25000) ∧ isR (withS r c) sl t = true := by
  unfold showsL
  rw [if_pos hk]
  unfold outAt
  rw [List.mem_filter, List.mem_map]
  have hi : isR (withS r c) sl t = true ↔ 100 * (c - 1 - sl) < tg t r.a * r.sec ∧ tg t r.a * r.sec < 100 * (c + 1 + sl) := by
    simp only [isR, withS, hk, if_true, decide_eq_true_eq]
  rw [hi]
  generalize tg t r.a * r.sec = n at hn ⊢
  simp only [List.mem_range, cLo, cHi, mx, mn]
  constructor
  · rintro ⟨⟨k, h1, h2⟩, h3⟩
    refine ⟨?_, h3⟩
    split at h1 <;> split at h1 <;> split at h2 <;> omega
  · rintro ⟨h1, h2⟩
    refine ⟨⟨(c - (if 0 < n / 100 - sl - 1 then n / 100 - sl - 1 else 0)).toNat, ?_, ?_⟩, h2⟩
    · split <;> split <;> omega
    · split <;> omega
end Go.Proofs
set_option linter.unusedSimpArgs false
set_option linter.unusedVariables false
set_option maxRecDepth 100000
namespace Go.Proofs
open Go Go.Mu

/-- A guarded load says the same again. -/
def reG (E : Env) (fr : Fr) (σ : List AObj) (d : Tmp) (op : Op) (want : Bool) : Option AV → Prop
  | some (.bool b) => b = want → give2 (fun v _ => fr.get d = some v) (hop E.ty fr σ op)
  | some (.tup []) => True
  | _ => False
theorem reG_tt {E : Env} {fr : Fr} {σ : List AObj} {d : Tmp} {op : Op} : reG E fr σ d op true (some (.bool true)) = give2 (fun v _ => fr.get d = some v) (hop E.ty fr σ op) := by simp [reG]
theorem reG_ff {E : Env} {fr : Fr} {σ : List AObj} {d : Tmp} {op : Op} : reG E fr σ d op false (some (.bool false)) = give2 (fun v _ => fr.get d = some v) (hop E.ty fr σ op) := by simp [reG]
theorem reG_tf {E : Env} {fr : Fr} {σ : List AObj} {d : Tmp} {op : Op} : reG E fr σ d op true (some (.bool false)) = True := by simp [reG]
theorem reG_ft {E : Env} {fr : Fr} {σ : List AObj} {d : Tmp} {op : Op} : reG E fr σ d op false (some (.bool true)) = True := by simp [reG]
theorem reG_tup {E : Env} {fr : Fr} {σ : List AObj} {d : Tmp} {op : Op} {want : Bool} : reG E fr σ d op want (some (.tup [])) = True := rfl
theorem reOK_guardA {E : Env} {all : List Oper} {fr : Fr} {σ : List AObj} {d : Tmp} {op : Op} {type : TypeId} {pos : String} {after : Array Edge} {j : Nat} {want : Bool} : reOK E all fr σ (some ⟨some d, op, type, pos, after, some (j, want)⟩) = reG E fr σ d op want (getO fr (dstOf all j)) := by
  have hd : dstOf all j = (all[j]?).bind (·.dst) := (dstOf_eq all j).symm
  simp only [reOK, wantA, hd]
  cases (all[j]?).bind (·.dst) with
  | none => simp [getO, reG]
  | some t =>
    simp only [getO]
    cases fr.get t with
    | none => simp [reG]
    | some v =>
      cases v with
      | bool b =>
        simp only [reG]
        cases hb : b == want with
        | true =>
          have : b = want := by simpa using hb
          simp only [this, true_implies]
          cases hop E.ty fr σ op with
          | none => rfl
          | some q => rfl
        | false =>
          have : ¬ b = want := by simpa using hb
          simp [this]
      | tup l => cases l <;> simp [reG]
      | _ => simp [reG]
attribute [go_sem] reG_tt reG_ff reG_tf reG_ft reG_tup reOK_guardA
def plain_s : List AV → Option AV
  | [] => some plainE.av
  | _ => none
def three_s : List AV → Option AV
  | [] => some threeE.av
  | _ => none
def ints_s := spec1 tIs fun l => if l.length ≤ 4294967296 then some (.list .no 1 (l.map (.int .i64))) else none
def fs17 (f : FuncId) (xs : List AV) : Option AV :=  fs16 f xs
theorem fs17_ok : ∀ f xs v, fs17 f xs = some v → PureV Try.prog f xs v := by
  intro f xs v h
  unfold fs17 at h
  exact fs16_ok _ _ _ h
attribute [go_sem] fs17
theorem decEar_av (e : Ear) : decEar e.av = some e := by
  unfold decEar Ear.av
  simp only [decL_rng, decL_rd, Option.bind_some]
theorem giveB_ear {X : AV → List AObj → Prop} {σ : List AObj} {e : Ear} : giveB X σ (some e.av) = X e.av σ := by rw [giveB_eq]; rfl
theorem tonesE : tonesL earE = ([⟨44000, 44005⟩, ⟨44010, 44015⟩], 0) := by decide +kernel
theorem gateE : gateL plainE 0 9 = (10, 0) := by decide +kernel
theorem bestE : bestL threeE [20] = ((higherR 0 1, 2), 0) := by decide +kernel
theorem needsE : needsL threeE 0 ⟨44001, 44001⟩ [20] = (2, 0) := by decide +kernel
theorem higherE : higherL earE 1 0 = (1, 0) := by decide +kernel
theorem okE1 : earE.tones.length ≤ 4294967296 ∧ earE.rds.length ≤ 4294967296 := by decide
theorem okE2 : plainE.tones.length ≤ 4294967296 ∧ plainE.rds.length ≤ 4294967296 := by decide
theorem okE3 : threeE.tones.length ≤ 4294967296 ∧ threeE.rds.length ≤ 4294967296 := by decide
attribute [go_sem ↓] decEar_av
attribute [go_sem] giveB_ear
def tuned_s : List AV → Option AV
  | [] => some (.bool true)
  | _ => none
def fs18 (f : FuncId) (xs : List AV) : Option AV :=  fs17 f xs
theorem fs18_ok : ∀ f xs v, fs18 f xs = some v → PureV Try.prog f xs v := by
  intro f xs v h
  unfold fs18 at h
  exact fs17_ok _ _ _ h
attribute [go_sem] fs18
end Go.Proofs
set_option linter.unusedSimpArgs false
set_option linter.unusedVariables false
set_option maxRecDepth 100000
namespace Go.Proofs
open Go Go.Mu

theorem decL_rd1 {t : Tok} {l : List Rd} {k a b s x y : Int} : decL 6 decRd (.list t 6 (l.map Rd.av ++ [.agg [.int .i64 k, .int .i64 a, .int .i64 b, .int .i64 s, .int .i64 x, .int .i64 y]])) = some (l ++ [⟨k, a, b, s, ⟨x, y⟩⟩]) := by
  have := decL_self (n := 6) (d := decRd) (f := Rd.av) decRd_av (t := t) (l := l ++ [⟨k, a, b, s, ⟨x, y⟩⟩])
  rw [List.map_append] at this
  exact this
theorem getD_eq {α : Type} [Inhabited α] {l : List α} {i : Nat} (h : i < l.length) : l.getD i default = l[i] := by simp [List.getD, List.getElem?_eq_getElem h]
/-- A count that shows one number, beside an ear's readings. -/
theorem tones_count {e : Ear} (hc : ck e = 0) {x s c : Int} (hx : 0 ≤ x ∧ x < e.tones.length) (hs : 1 ≤ s ∧ s ≤ 20) (hcc : 0 ≤ c ∧ c ≤ 25000) (hr : e.rds.length ≤ 5) :
    (outO ⟨1, x, 0, s, ⟨0, 0⟩⟩ e.slack (truthsL e) c = [] ∧ (tonesL ⟨e.slack, e.tones, e.rds ++ [⟨1, x, 0, s, ⟨c, c⟩⟩]⟩).2 = 9) ∨
    (outO ⟨1, x, 0, s, ⟨0, 0⟩⟩ e.slack (truthsL e) c ≠ [] ∧ ∃ tl, tonesL ⟨e.slack, e.tones, e.rds ++ [⟨1, x, 0, s, ⟨c, c⟩⟩]⟩ = (tl, 0) ∧ tl.length = e.tones.length ∧ tl.getD x.toNat default = spanL (fun t => tg t x) (outO ⟨1, x, 0, s, ⟨0, 0⟩⟩ e.slack (truthsL e) c)) := by
  have he := okE_of_ck hc
  have htr : truthsL ⟨e.slack, e.tones, e.rds ++ [⟨1, x, 0, s, ⟨c, c⟩⟩]⟩ = outO ⟨1, x, 0, s, ⟨0, 0⟩⟩ e.slack (truthsL e) c := by
    rw [truthsL_more]
    unfold outO
    refine List.filter_congr fun t ht => ?_
    have hsm := (truthsL_ok he t ht).2
    have htg := small_tg hsm x
    rw [Bool.eq_iff_iff, decide_eq_true_eq, mem_shows_count rfl he.sl.1 (Int.mul_nonneg htg.1 (by simp only; omega))]
    exact ⟨fun h => ⟨hcc, h⟩, fun h => h.2⟩
  have hck : ck ⟨e.slack, e.tones, e.rds ++ [⟨1, x, 0, s, ⟨c, c⟩⟩]⟩ = 0 := by
    have h1 : ckR ⟨1, x, 0, s, ⟨c, c⟩⟩ e.tones.length = 0 := by simp only [ckR]; grind
    have h2 := firstE_all (f := fun r => ckR r e.tones.length) (l := e.rds) (by simp only [ck] at hc; grind)
    have h3 : firstE (fun r => ckR r e.tones.length) (e.rds ++ [⟨1, x, 0, s, ⟨c, c⟩⟩]) = 0 := firstE_zero fun i hi => by
      rcases List.mem_append.1 (List.getElem_mem hi) with hm | hm
      · exact h2 _ hm
      · simp at hm; rw [hm]; exact h1
    simp only [ck] at hc ⊢
    rw [h3, List.length_append]
    simp only [List.length_cons, List.length_nil]
    grind
  by_cases hO : outO ⟨1, x, 0, s, ⟨0, 0⟩⟩ e.slack (truthsL e) c = []
  · refine .inl ⟨hO, ?_⟩
    rw [hO] at htr
    simp [tonesL, knownL, hck, htr]
  · refine .inr ⟨hO, (List.range e.tones.length).map fun (i : Nat) => spanL (fun t => tg t i) (outO ⟨1, x, 0, s, ⟨0, 0⟩⟩ e.slack (truthsL e) c), ?_, by simp, ?_⟩
    · simp [tonesL, knownL, hck, htr, hO]
    · rw [getD_eq (by simp; omega)]
      simp only [List.getElem_map, List.getElem_range, Int.toNat_of_nonneg hx.1]
/-- What a count leaves is known well enough. -/
def okC (e : Ear) (x width s c : Int) : Bool := decide (outO ⟨1, x, 0, s, ⟨0, 0⟩⟩ e.slack (truthsL e) c = []) || decide ((spanL (fun t => tg t x) (outO ⟨1, x, 0, s, ⟨0, 0⟩⟩ e.slack (truthsL e) c)).hi - (spanL (fun t => tg t x) (outO ⟨1, x, 0, s, ⟨0, 0⟩⟩ e.slack (truthsL e) c)).lo ≤ width)
def fineU (e : Ear) (x width s c0 : Int) (i : Nat) : Bool := (List.range i).all fun k : Nat => okC e x width s (c0 + k)
theorem fineU_succ {e : Ear} {x width s c0 : Int} {i : Nat} : fineU e x width s c0 (i + 1) = (fineU e x width s c0 i && okC e x width s (c0 + i)) := by
  simp [fineU, List.range_succ]
/-- All that can be shown lies between these ends. -/
theorem fineU_all {e : Ear} (hc : ck e = 0) {x width s c0 q1 q2 : Int} {n : Nat} (hx : 0 ≤ x ∧ x < e.tones.length) (hs : 1 ≤ s ∧ s ≤ 20) (hsl : e.slack ≤ 1)
    (h1 : q1 = (e.tones.getD x.toNat default).lo * s / 100) (h2 : q2 = (e.tones.getD x.toNat default).hi * s / 100) (h3 : c0 = if 0 < q1 - 3 then q1 - 3 else 0) (h4 : c0 + n = q2 + 5) : fineU e x width s c0 n = gateS e.slack (truthsL e) x width s := by
  have he := okE_of_ck hc
  have key : ∀ c, outO ⟨1, x, 0, s, ⟨0, 0⟩⟩ e.slack (truthsL e) c ≠ [] → c0 ≤ c ∧ c < c0 + n := by
    intro c h
    obtain ⟨t, ht⟩ := List.exists_mem_of_ne_nil _ h
    unfold outO at ht
    rw [List.mem_filter, decide_eq_true_eq] at ht
    obtain ⟨ht, hm⟩ := ht
    have hsm := (truthsL_ok he t ht).2
    have htg := small_tg hsm x
    rw [mem_shows_count rfl he.sl.1 (Int.mul_nonneg htg.1 (by simp only; omega))] at hm
    obtain ⟨hc1, hm⟩ := hm
    simp only [isR, withS, if_true] at hm
    replace hm := of_decide_eq_true hm
    rw [truthsL_filter, List.mem_filter] at ht
    have hb := ((mem_allC he.len t).1 ht.1).2 x.toNat (by have := he.len; omega)
    rw [if_pos (by omega), Int.toNat_of_nonneg hx.1] at hb
    have m1 := Int.mul_le_mul_of_nonneg_right hb.1 (c := s) (by omega)
    have m2 := Int.mul_le_mul_of_nonneg_right hb.2 (c := s) (by omega)
    have hsl0 := he.sl
    generalize tg t x * s = N at *
    generalize (e.tones.getD x.toNat default).lo * s = A at *
    generalize (e.tones.getD x.toNat default).hi * s = B at *
    split at h3 <;> omega
  rw [Bool.eq_iff_iff]
  unfold gateS
  rw [outcomes_all (f := fun l => decide ((spanL (fun t => tg t x) l).hi - (spanL (fun t => tg t x) l).lo ≤ width))]
  unfold fineU
  rw [List.all_eq_true]
  constructor
  · intro h c hc
    obtain ⟨k1, k2⟩ := key c hc
    have := h (c - c0).toNat (by simp; omega)
    rw [Int.toNat_of_nonneg (by omega)] at this
    have e1 : c0 + (c - c0) = c := by omega
    rw [e1] at this
    unfold okC at this
    rcases Bool.or_eq_true _ _ ▸ this with h' | h'
    · exact absurd (by simpa using h') hc
    · exact h'
  · intro h k hk
    unfold okC
    by_cases hO : outO ⟨1, x, 0, s, ⟨0, 0⟩⟩ e.slack (truthsL e) (c0 + k) = []
    · rw [hO]; rfl
    · rw [Bool.or_eq_true]; exact .inr (h _ hO)
/-- What Gate answers of an ear that is made of numbers. -/
theorem gate_cases {m n w : Int} {e : Ear} {T : List Int} (h : EarP m n w e T) {x width : Int} (hx : 0 ≤ x ∧ x < e.tones.length) (hw : 0 ≤ width) :
    (∃ k : Nat, k < 20 ∧ gateL e x width = ((k : Int) + 1, 0) ∧ gateS e.slack (truthsL e) x width (k + 1) = true ∧ ∀ j : Nat, j < k → gateS e.slack (truthsL e) x width (j + 1) = false) ∨
    (gateL e x width = (0, 11) ∧ ∀ j : Nat, j < 20 → gateS e.slack (truthsL e) x width (j + 1) = false) := by
  have hk := h.known
  have hW : gateW e.tones.length x width = 0 := by unfold gateW; rw [if_pos (by omega), if_neg (by omega)]
  have hask : askL e (gateW e.tones.length x width) = (truthsL e, 0) := by unfold askL; rw [if_neg (by rw [h.ck]; simp), hW, if_neg (by simp)]; exact hk.1
  unfold gateL
  rw [hask]
  simp only [if_true]
  cases hf : (List.range 20).find? (fun k : Nat => gateS e.slack (truthsL e) x width (k + 1)) with
  | some k =>
    rw [List.find?_range_eq_some] at hf
    refine .inl ⟨k, by simpa using hf.2.1, rfl, hf.1, fun j hj => ?_⟩
    have := hf.2.2 j hj
    simpa using this
  | none =>
    rw [List.find?_eq_none] at hf
    refine .inr ⟨rfl, fun j hj => ?_⟩
    have := hf j (by simpa using hj)
    simpa using this
end Go.Proofs
