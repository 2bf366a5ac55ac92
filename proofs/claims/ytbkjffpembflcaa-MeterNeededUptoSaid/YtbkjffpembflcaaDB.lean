/- Texts of a proof: lemmas. -/
import Derived.Test.YtbkjffpembflcaaDA
import Derived.Test.YtbkjffpembflcaaA25
set_option linter.unusedSimpArgs false
set_option linter.unusedVariables false
set_option maxRecDepth 100000
namespace Go.Proofs
open Go Go.Mu

/-- Numbers and truth values, one after the other: no number has both. -/
theorem foldD : ∀ (ps : List (Int × Bool)) (m : List (Int × Bool)), (ps.foldl (fun m p => stepD p.2 m p.1) (some m)).isSome = true ↔ (∀ p ∈ ps, mget m p.1 ≠ some (!p.2)) ∧ (∀ p ∈ ps, ∀ q ∈ ps, p.1 = q.1 → p.2 = q.2)
  | [], m => by simp
  | (k, b) :: ps, m => by
    simp only [List.foldl_cons]
    by_cases h : mget m k = some (!b)
    · have e : stepD b (some m) k = none := by simp [stepD, h]
      rw [e, foldl_none (fun a => rfl)]
      simp only [Option.isSome_none, Bool.false_eq_true, false_iff]
      intro hh
      exact hh.1 (k, b) (by simp) h
    · have e : stepD b (some m) k = some (mset m k b) := by simp [stepD, h]
      rw [e, foldD ps (mset m k b)]
      constructor
      · rintro ⟨h1, h2⟩
        have h3 : ∀ p ∈ ps, p.1 = k → p.2 = b := fun p hp hk => by
          have := h1 p hp
          rw [mget_mset', if_pos hk] at this
          cases hb : p.2 <;> cases b <;> simp_all
        refine ⟨fun p hp => ?_, fun p hp q hq hpq => ?_⟩
        · rcases List.mem_cons.1 hp with rfl | hp
          · exact h
          · have := h1 p hp
            rw [mget_mset'] at this
            split at this
            · rename_i hk
              rw [h3 p hp hk, hk]; exact h
            · exact this
        · rcases List.mem_cons.1 hp with rfl | hp <;> rcases List.mem_cons.1 hq with rfl | hq
          · rfl
          · exact (h3 q hq hpq.symm).symm
          · exact h3 p hp hpq
          · exact h2 p hp q hq hpq
      · rintro ⟨h1, h2⟩
        refine ⟨fun p hp => ?_, fun p hp q hq => h2 p (by simp [hp]) q (by simp [hq])⟩
        rw [mget_mset']
        split
        · rename_i hk
          have := h2 p (by simp [hp]) (k, b) (by simp) hk
          simp only at this
          rw [this]; cases b <;> simp
        · exact h1 p (by simp [hp])
theorem decides_iff {x : Int} {w : Rng} {r : Rd} {sl : Int} {l : List (List Int)} : decidesL x w r sl l = true ↔ ∀ t ∈ l, ∀ u ∈ l, ∀ k, k ∈ showsL r sl t → k ∈ showsL r sl u → qis x w t = qis x w u := by
  have e : l.foldl (decS x w r sl) (some []) = (l.flatMap fun t => (showsL r sl t).map fun k => (k, qis x w t)).foldl (fun m p => stepD p.2 m p.1) (some []) := by
    rw [List.foldl_flatMap]
    congr 1
    funext m t
    rw [List.foldl_map]
    rfl
  unfold decidesL
  rw [e, foldD]
  constructor
  · rintro ⟨_, h⟩ t ht u hu k hk hk'
    exact h (k, qis x w t) (List.mem_flatMap.2 ⟨t, ht, List.mem_map.2 ⟨k, hk, rfl⟩⟩) (k, qis x w u) (List.mem_flatMap.2 ⟨u, hu, List.mem_map.2 ⟨k, hk', rfl⟩⟩) rfl
  · intro h
    refine ⟨fun p _ => by simp [mget, fIdx], fun p hp q hq hpq => ?_⟩
    obtain ⟨t, ht, h1⟩ := List.mem_flatMap.1 hp
    obtain ⟨u, hu, h2⟩ := List.mem_flatMap.1 hq
    obtain ⟨k, hk, rfl⟩ := List.mem_map.1 h1
    obtain ⟨k', hk', rfl⟩ := List.mem_map.1 h2
    simp only at hpq ⊢
    subst hpq
    exact h t ht u hu k hk hk'
theorem qin_iff {x : Int} {w : Rng} {l : List (List Int)} : qin x w l = true ↔ ∀ t ∈ l, ∀ u ∈ l, qis x w t = qis x w u := by
  unfold qin
  rw [decide_eq_true_eq]
  have hv : verd (l.filter (qis x w)).length l.length ≠ 3 ↔ (l.filter (qis x w)).length = l.length ∨ (l.filter (qis x w)).length = 0 := by unfold verd; grind
  rw [hv, List.length_filter_eq_length_iff, List.length_eq_zero_iff, List.filter_eq_nil_iff]
  constructor
  · rintro (h | h) t ht u hu
    · rw [h t ht, h u hu]
    · have h1 := h t ht; have h2 := h u hu
      cases hq : qis x w t <;> cases hq2 : qis x w u <;> simp_all
  · intro h
    cases l with
    | nil => left; simp
    | cons a l =>
      cases hq : qis x w a
      · right; intro t ht; rw [← h a (by simp) t ht, hq]; simp
      · left; intro t ht; rw [← h a (by simp) t ht, hq]
theorem decides_out {x : Int} {w : Rng} {r : Rd} {sl : Int} {l : List (List Int)} : decidesL x w r sl l = true ↔ ∀ c, qin x w (outO r sl l c) = true := by
  rw [decides_iff]
  constructor
  · intro h c
    rw [qin_iff]
    intro t ht u hu
    unfold outO at ht hu
    rw [List.mem_filter, decide_eq_true_eq] at ht hu
    exact h t ht.1 u hu.1 c ht.2 hu.2
  · intro h t ht u hu k hk hk'
    exact qin_iff.1 (h k) t (by unfold outO; rw [List.mem_filter, decide_eq_true_eq]; exact ⟨ht, hk⟩) u (by unfold outO; rw [List.mem_filter, decide_eq_true_eq]; exact ⟨hu, hk'⟩)
/-- Whether at most so many readings decide: by the reference. -/
def decR (x : Int) (w : Rng) (rl : List Rd) (sl : Int) : Nat → List (List Int) → Bool
  | 0, L => qin x w L
  | n + 1, L => qin x w L || rl.any fun r => (outsR r sl L).all fun l => decR x w rl sl n l
theorem qin_take {x : Int} {w : Rng} {l : List (List Int)} {m : Nat} (h0 : 0 ≤ x) (h : x < m) : qin x w (l.map (List.take m)) = qin x w l := by
  unfold qin
  rw [List.filter_map, List.length_map, List.length_map]
  have : qis x w ∘ List.take m = qis x w := by funext t; simp only [Function.comp, qis]; rw [tg_take h h0]
  rw [this]
theorem qin_nil {x : Int} {w : Rng} : qin x w [] = true := by unfold qin verd; simp
section
variable {e : Ear} {x : Int} {w : Rng} {rl : List Rd} {sl : Int} {l : List (List Int)}
theorem outs_all (p q : List (List Int) → Bool) {r : Rd} (hsl : 0 ≤ sl) (hm : e.tones.length ≤ 3) (hr : ckR r e.tones.length = 0) (hl : ∀ t ∈ l, small t) (hpq : ∀ c, outO r sl l c ≠ [] → p ((outO r sl l c).map (List.take e.tones.length)) = q (outO r sl l c)) :
    ((outsR r sl (l.map (List.take e.tones.length))).all p = true) ↔ ∀ c, outO r sl l c ≠ [] → q (outO r sl l c) = true := by
  have hok := okR_of_ck hm hr
  obtain ⟨x1, x2⟩ := ckR_idx hr
  have ho : ∀ c, outR r sl (l.map (List.take e.tones.length)) c = (outO r sl l c).map (List.take e.tones.length) := fun c =>
    outR_take hsl l (fun t ht => (mul_le (small_tg (hl t ht) r.a) hok.2.2.2.1).1) ⟨hok.2.1.1, x1⟩ (fun h => ⟨hok.2.2.1.1, x2 h⟩) c
  rw [List.all_eq_true]
  constructor
  · intro h c hc
    rw [← hpq c hc]
    exact h _ (mem_outsR.2 ⟨by simpa using hc, c, (ho c).symm⟩)
  · intro h a ha
    obtain ⟨hne, c, rfl⟩ := mem_outsR.1 ha
    rw [ho] at hne ⊢
    have hc : outO r sl l c ≠ [] := by simpa using hne
    rw [hpq c hc]; exact h c hc
theorem decR_one (hsl : 0 ≤ sl) (hm : e.tones.length ≤ 3) (hx : 0 ≤ x ∧ x < e.tones.length) (hr : ∀ r ∈ rl, ckR r e.tones.length = 0) (hl : ∀ t ∈ l, small t) : decR x w rl sl 1 (l.map (List.take e.tones.length)) = oneL x w rl sl l := by
  unfold oneL
  simp only [decR]
  rw [qin_take hx.1 hx.2]
  congr 1
  rw [Bool.eq_iff_iff, List.any_eq_true, List.any_eq_true]
  have key : ∀ r ∈ rl, ((outsR r sl (l.map (List.take e.tones.length))).all (fun l => qin x w l) = true) ↔ decidesL x w r sl l = true := fun r h => by
    rw [outs_all (fun l => qin x w l) (fun l => qin x w l) hsl hm (hr r h) hl (fun c _ => qin_take hx.1 hx.2), decides_out]
    constructor
    · intro h c
      by_cases hc : outO r sl l c = []
      · rw [hc]; exact qin_nil
      · exact h c hc
    · intro h c _; exact h c
  constructor
  · rintro ⟨r, h1, h2⟩; exact ⟨r, h1, (key r h1).1 h2⟩
  · rintro ⟨r, h1, h2⟩; exact ⟨r, h1, (key r h1).2 h2⟩
theorem outO_small {r : Rd} {c : Int} (hl : ∀ t ∈ l, small t) : ∀ t ∈ outO r sl l c, small t := fun t ht => hl t (List.mem_filter.1 ht).1
theorem decR_two (hsl : 0 ≤ sl) (hm : e.tones.length ≤ 3) (hx : 0 ≤ x ∧ x < e.tones.length) (hr : ∀ r ∈ rl, ckR r e.tones.length = 0) (hl : ∀ t ∈ l, small t) : decR x w rl sl 2 (l.map (List.take e.tones.length)) = (qin x w l || twoL x w rl sl l) := by
  unfold twoL
  rw [show decR x w rl sl 2 (l.map (List.take e.tones.length)) = (qin x w (l.map (List.take e.tones.length)) || rl.any fun r => (outsR r sl (l.map (List.take e.tones.length))).all fun l => decR x w rl sl 1 l) from rfl]
  rw [qin_take hx.1 hx.2]
  congr 1
  rw [Bool.eq_iff_iff, List.any_eq_true, List.any_eq_true]
  have key : ∀ r ∈ rl, ((outsR r sl (l.map (List.take e.tones.length))).all (fun l => decR x w rl sl 1 l) = true) ↔ ((outcomesL r sl l).all fun p => oneL x w rl sl p.2) = true := fun r h => by
    rw [outs_all (fun l => decR x w rl sl 1 l) (fun l => oneL x w rl sl l) hsl hm (hr r h) hl (fun c _ => decR_one hsl hm hx hr (outO_small hl)), List.all_eq_true]
    constructor
    · intro h p hp
      obtain ⟨h1, h2⟩ := outcomes_iff.1 hp
      rw [h1] at h2 ⊢
      exact h _ h2
    · intro h c hc
      exact h (c, outO r sl l c) (outcomes_iff.2 ⟨rfl, hc⟩)
  constructor
  · rintro ⟨r, h1, h2⟩; exact ⟨r, h1, (key r h1).1 h2⟩
  · rintro ⟨r, h1, h2⟩; exact ⟨r, h1, (key r h1).2 h2⟩
end
/-- Whether a count leaves a tongue known within a width: by the reference. -/
def gateR (sl : Int) (L : List (List Int)) (x width s : Int) : Bool := (outsR ⟨1, x, 0, s, ⟨0, 0⟩⟩ sl L).all fun l => decide ((spanL (fun t => tg t x) l).hi - (spanL (fun t => tg t x) l).lo ≤ width)
theorem gateR_eq {e : Ear} {sl x width s : Int} {l : List (List Int)} (hsl : 0 ≤ sl) (hm : e.tones.length ≤ 3) (hx : 0 ≤ x ∧ x < e.tones.length) (hs : 1 ≤ s ∧ s ≤ 20) (hl : ∀ t ∈ l, small t) : gateR sl (l.map (List.take e.tones.length)) x width s = gateS sl l x width s := by
  unfold gateR gateS
  have hr : ckR ⟨1, x, 0, s, ⟨0, 0⟩⟩ e.tones.length = 0 := by simp only [ckR]; grind
  have := outs_all (e := e) (l := l) (fun l => decide ((spanL (fun t => tg t x) l).hi - (spanL (fun t => tg t x) l).lo ≤ width)) (fun l => decide ((spanL (fun t => tg t x) l).hi - (spanL (fun t => tg t x) l).lo ≤ width)) hsl hm hr hl (fun c hc => by
    have e1 : spanL (fun t => tg t x) ((outO ⟨1, x, 0, s, ⟨0, 0⟩⟩ sl l c).map (List.take e.tones.length)) = spanL (fun t => tg t x) (outO ⟨1, x, 0, s, ⟨0, 0⟩⟩ sl l c) := by
      rw [spanL_map _ _ hc]
      exact spanL_congr hc fun t _ => tg_take hx.2 hx.1
    simp only [e1])
  rw [Bool.eq_iff_iff, this, List.all_eq_true]
  constructor
  · intro h p hp
    obtain ⟨h1, h2⟩ := outcomes_iff.1 hp
    rw [h1] at h2 ⊢
    exact h _ h2
  · intro h c hc
    exact h (c, outO _ sl l c) (outcomes_iff.2 ⟨rfl, hc⟩)
end Go.Proofs
set_option linter.unusedSimpArgs false
set_option linter.unusedVariables false
set_option maxRecDepth 100000
namespace Go.Proofs
open Go Go.Mu

theorem span_bd {x : Int} {l : List (List Int)} (hl : l ≠ []) (hs : ∀ t ∈ l, small t) : (0 ≤ (spanL (fun t => tg t x) l).lo ∧ (spanL (fun t => tg t x) l).lo ≤ 1000000) ∧ (0 ≤ (spanL (fun t => tg t x) l).hi ∧ (spanL (fun t => tg t x) l).hi ≤ 1000000) := by
  obtain ⟨_, ⟨a, ha, ha2⟩, ⟨b, hb, hb2⟩⟩ := spanL_spec (num := fun t => tg t x) hl
  have h1 := small_tg (hs a ha) x
  have h2 := small_tg (hs b hb) x
  omega
theorem all_take_succ {α : Type} {f : α → Bool} {l : List α} {i : Nat} (h : i < l.length) : (l.take (i + 1)).all f = ((l.take i).all f && f l[i]) := by
  rw [List.take_succ_eq_append_getElem h, List.all_append]; simp
theorem any_take_succ {α : Type} {f : α → Bool} {l : List α} {i : Nat} (h : i < l.length) : (l.take (i + 1)).any f = ((l.take i).any f || f l[i]) := by
  rw [List.take_succ_eq_append_getElem h, List.any_append]; simp
def fs117 (f : FuncId) (xs : List AV) : Option AV := if f = 52 then rBest_s xs else fs116 f xs
theorem fs117_ok : ∀ f xs v, fs117 f xs = some v → PureV Try.prog f xs v := by
  intro f xs v h
  unfold fs117 at h
  split at h
  · rename_i e; subst e; exact rBest_ok _ _ h
  exact fs116_ok _ _ _ h
attribute [go_sem] fs117 rBest_s
def gateV : Option Nat → Int × Int
  | some k => ((k : Int) + 1, 0)
  | none => (0, 11)
set_option maxHeartbeats 4000000 in
theorem rGate_p (e : Ear) (x width : Int) (h1 : e.tones.length ≤ 4294967296) (h2 : e.rds.length ≤ 4294967296) : PureV Try.prog 24 [e.av, .int .i64 x, .int .i64 width] (.tup [.int .i64 (gateL e x width).1, .int .i64 (gateL e x width).2]) := by
  refine PureV.of_ev (E := Try.E 63 (fun _ => ([], [])) fs117) (Try.envOK 63 (fun _ => ([], [])) fs117 fs117_ok) (ii_plain) Try.kp24 Try.func24 rfl (by kernel_rfl) (by simp [Try.E]) (Callable.of Try.func24 (by kernel_rfl) (by kernel_rfl)) (by kernel_rfl) ?_
  intro σ
  by_cases hk : (askL e (gateW e.tones.length x width)).2 = 0
  · obtain ⟨hc, hw, hn, hke⟩ := askL_ok hk
    have he := okE_of_ck hc
    have hlen := he.len
    have hx : 0 ≤ x ∧ x ≤ e.tones.length - 1 := by unfold gateW at hw; grind
    have hwd : 0 ≤ width := by unfold gateW at hw; grind
    have hR : rallL e [] = truthsR e := rfl
    have hR0 : truthsR e ≠ [] := fun h => hn (truthsR_nil.1 h)
    have hsl := he.sl
    have ho : ∀ s, 1 ≤ s ∧ s ≤ 20 → okO ⟨1, x, 0, s, ⟨0, 0⟩⟩ (truthsR e) := fun s hs => okO_truths hc (by simp only [ckR]; grind)
    have hok := truthsR_ok he
    have hgs : ∀ s, 1 ≤ s ∧ s ≤ 20 → gateR e.slack (truthsR e) x width s = gateS e.slack (truthsL e) x width s := fun s hs => gateR_eq hsl.1 hlen ⟨hx.1, by omega⟩ hs fun t ht => (truthsL_ok he t ht).2
    have hd : gateL e x width = gateV ((List.range 20).find? (fun k : Nat => gateS e.slack (truthsL e) x width (k + 1))) := by
      unfold gateL; rw [if_pos hk]
      generalize (List.range 20).find? _ = o
      cases o <;> rfl
    rw [hd]
    obtain ⟨sl, ts, rs⟩ := e
    simp only [Ear.av]
    dsimp only at *
    have hbt : (truthsR ⟨sl, ts, rs⟩).length ≤ 100000 := (ho 1 (by omega)).2.1
    have hinT : inT x (truthsR ⟨sl, ts, rs⟩) := fun t ht => by rw [(hok t ht).1]; omega
    have hsm : ∀ t ∈ truthsR ⟨sl, ts, rs⟩, small t := fun t ht => (hok t ht).2
    clear hk hke hn he hd hw hok
    generalize truthsL ⟨sl, ts, rs⟩ = TL at hgs ⊢
    obtain ⟨V, hV⟩ : ∃ V, gateV ((List.range 20).find? (fun k : Nat => gateS sl TL x width (k + 1))) = V := ⟨_, rfl⟩
    rw [hV]
    generalize truthsR ⟨sl, ts, rs⟩ = L at hR hR0 ho hbt hgs hinT hsm
    have hL0 : ¬ L.length = 0 := fun h => hR0 (List.length_eq_zero_iff.1 h)
    have hxd : decide (0 ≤ x ∧ x ≤ (ts.length : Int) - 1) = true := decide_eq_true hx
    simp -implicitDefEqProofs (maxSteps := 2000000) (disch := omega) only [go_sem, reduceCtorEq, Nat.reduceAdd, Nat.reduceSub, Nat.reduceMul, Nat.reduceLT, Nat.reduceLeDiff, Nat.reduceEqDiff, Nat.reduceBEq, Int.reduceToNat, Int.reduceLT, Int.reduceLE, Int.reduceEq, Int.reduceNeg, Int.reduceAdd, Int.reduceSub, Int.reduceMul, ↓reduceIte, Int.reduceBEq, Int.reduceBNe, hc, small0, hR, tss]
    refine ARun.forS (Try.envOK 63 (fun _ => ([], [])) fs117 fs117_ok) 20 (fun i => ∀ k, k < i → gateS sl TL x width (k + 1) = false) (fun i => [(10, .int .i64 ((i : Int) + 1))]) (fun i j => σ ++ (.cells [.int .i64 sl, .list .no 2 (ts.map Rng.av), .list .no 6 (rs.map Rd.av)] :: j)) [] (by kernel_rfl) rfl (by simp [upd, ins, subF, lookA]) (fun k hk => by omega) ?_ ?_
    · intro i j hi hP ih
      have hos := ho ((i : Int) + 1) (by omega)
      have hg := hgs ((i : Int) + 1) (by omega)
      have hol := outsR_len hsl hos
      have hoe : ∀ l ∈ outsR ⟨1, x, 0, (i : Int) + 1, ⟨0, 0⟩⟩ sl L, l ≠ [] ∧ l.length ≤ 100000 ∧ inT x l ∧ ∀ t ∈ l, small t := fun l hl => by
        obtain ⟨a1, a2, a3⟩ := outs_elem hl
        exact ⟨a1, by omega, fun t ht => hinT t (a3 t ht), fun t ht => hsm t (a3 t ht)⟩
      unfold gateR at hg
      clear ho hgs
      simp -implicitDefEqProofs (maxSteps := 2000000) (disch := omega) only [go_sem, reduceCtorEq, Nat.reduceAdd, Nat.reduceSub, Nat.reduceMul, Nat.reduceLT, Nat.reduceLeDiff, Nat.reduceEqDiff, Nat.reduceBEq, Int.reduceToNat, Int.reduceLT, Int.reduceLE, Int.reduceEq, Int.reduceNeg, Int.reduceAdd, Int.reduceSub, Int.reduceMul, ↓reduceIte, Int.reduceBEq, Int.reduceBNe, hos, hsl, tsss]
      generalize outsR ⟨1, x, 0, (i : Int) + 1, ⟨0, 0⟩⟩ sl L = O at hg hol hoe ⊢
      refine ARun.forS (Try.envOK 63 (fun _ => ([], [])) fs117 fs117_ok) O.length (fun _ => True) (fun k => [(12, .bool ((O.take k).all fun l => decide ((spanL (fun t => tg t x) l).hi - (spanL (fun t => tg t x) l).lo ≤ width))), (13, .int .i64 k)]) (fun k j2 => σ ++ (.cells [.int .i64 sl, .list .no 2 (ts.map Rng.av), .list .no 6 (rs.map Rd.av)] :: (j ++ j2))) [] (by kernel_rfl) (by simp) (by simp [upd, ins, subF, lookA]) trivial ?_ ?_
      · intro k j2 hk _ ih2
        have hri := idx_tsss hk
        obtain ⟨a1, a2, a3, a4⟩ := hoe _ (List.getElem_mem hk)
        have hbd := span_bd (x := x) a1 a4
        rw [all_take_succ hk] at ih2
        clear hoe hg ih hP
        generalize ((O.take k).all fun l => decide ((spanL (fun t => tg t x) l).hi - (spanL (fun t => tg t x) l).lo ≤ width)) = A at ih2 ⊢
        generalize O[k] = Ok at hri a1 a2 a3 a4 hbd ih2
        generalize hsp : spanL (fun t => tg t x) Ok = sp at hbd ih2
        obtain ⟨plo, phi⟩ := sp
        simp only [tss] at hri
        simp only at hbd ih2
        clear a4
        cases A
        · rw [Bool.false_and] at ih2
          simp -implicitDefEqProofs (maxSteps := 2000000) (disch := omega) only [go_sem, reduceCtorEq, Nat.reduceAdd, Nat.reduceSub, Nat.reduceMul, Nat.reduceLT, Nat.reduceLeDiff, Nat.reduceEqDiff, Nat.reduceBEq, Int.reduceToNat, Int.reduceLT, Int.reduceLE, Int.reduceEq, Int.reduceNeg, Int.reduceAdd, Int.reduceSub, Int.reduceMul, ↓reduceIte, Int.reduceBEq, Int.reduceBNe, hri, tss, a1, a3, hsp, Rng.av]
          exact (ih2 trivial (j2 ++ [.cells [.int .i64 plo, .int .i64 phi]])).castS (by simp) (by simp [upd, ins, subF, lookA])
        · rw [Bool.true_and] at ih2
          by_cases hle : phi - plo ≤ width
          · rw [decide_eq_true hle] at ih2
            simp -implicitDefEqProofs (maxSteps := 2000000) (disch := omega) only [go_sem, reduceCtorEq, Nat.reduceAdd, Nat.reduceSub, Nat.reduceMul, Nat.reduceLT, Nat.reduceLeDiff, Nat.reduceEqDiff, Nat.reduceBEq, Int.reduceToNat, Int.reduceLT, Int.reduceLE, Int.reduceEq, Int.reduceNeg, Int.reduceAdd, Int.reduceSub, Int.reduceMul, ↓reduceIte, Int.reduceBEq, Int.reduceBNe, hri, tss, a1, a3, hsp, Rng.av]
            exact (ih2 trivial (j2 ++ [.cells [.int .i64 plo, .int .i64 phi]])).castS (by simp) (by simp [upd, ins, subF, lookA])
          · rw [decide_eq_false hle] at ih2
            simp -implicitDefEqProofs (maxSteps := 2000000) (disch := omega) only [go_sem, reduceCtorEq, Nat.reduceAdd, Nat.reduceSub, Nat.reduceMul, Nat.reduceLT, Nat.reduceLeDiff, Nat.reduceEqDiff, Nat.reduceBEq, Int.reduceToNat, Int.reduceLT, Int.reduceLE, Int.reduceEq, Int.reduceNeg, Int.reduceAdd, Int.reduceSub, Int.reduceMul, ↓reduceIte, Int.reduceBEq, Int.reduceBNe, hri, tss, a1, a3, hsp, Rng.av]
            exact (ih2 trivial (j2 ++ [.cells [.int .i64 plo, .int .i64 phi]])).castS (by simp) (by simp [upd, ins, subF, lookA])
      · intro j2 _
        rw [List.take_length, hg]
        cases hgv : gateS sl TL x width ((i : Int) + 1)
        · simp -implicitDefEqProofs (maxSteps := 2000000) (disch := omega) only [go_sem, reduceCtorEq, Nat.reduceAdd, Nat.reduceSub, Nat.reduceMul, Nat.reduceLT, Nat.reduceLeDiff, Nat.reduceEqDiff, Nat.reduceBEq, Int.reduceToNat, Int.reduceLT, Int.reduceLE, Int.reduceEq, Int.reduceNeg, Int.reduceAdd, Int.reduceSub, Int.reduceMul, ↓reduceIte, Int.reduceBEq, Int.reduceBNe]
          exact (ih (fun k hk => by
            rcases Nat.lt_or_ge k i with h | h
            · exact hP k h
            · have : k = i := by omega
              subst this; exact hgv) (j ++ j2)).castS rfl (by simp [upd, ins, subF, lookA])
        · have hf := find_range (f := fun k : Nat => gateS sl TL x width (k + 1)) (n := 20) hi hP hgv
          have hV2 : V = ((i : Int) + 1, 0) := by rw [← hV, hf]; rfl
          subst hV2
          clear hV
          simp -implicitDefEqProofs (maxSteps := 2000000) (disch := omega) only [go_sem, reduceCtorEq, Nat.reduceAdd, Nat.reduceSub, Nat.reduceMul, Nat.reduceLT, Nat.reduceLeDiff, Nat.reduceEqDiff, Nat.reduceBEq, Int.reduceToNat, Int.reduceLT, Int.reduceLE, Int.reduceEq, Int.reduceNeg, Int.reduceAdd, Int.reduceSub, Int.reduceMul, ↓reduceIte, Int.reduceBEq, Int.reduceBNe]
    · intro j hP
      have hf := find_none (f := fun k : Nat => gateS sl TL x width (k + 1)) (n := 20) hP
      have hV2 : V = (0, 11) := by rw [← hV, hf]; rfl
      subst hV2
      clear ho hgs hV
      simp -implicitDefEqProofs (maxSteps := 2000000) (disch := omega) only [go_sem, reduceCtorEq, Nat.reduceAdd, Nat.reduceSub, Nat.reduceMul, Nat.reduceLT, Nat.reduceLeDiff, Nat.reduceEqDiff, Nat.reduceBEq, Int.reduceToNat, Int.reduceLT, Int.reduceLE, Int.reduceEq, Int.reduceNeg, Int.reduceAdd, Int.reduceSub, Int.reduceMul, ↓reduceIte, Int.reduceBEq, Int.reduceBNe]
  · have hd : gateL e x width = (0, (askL e (gateW e.tones.length x width)).2) := by unfold gateL; rw [if_neg hk]
    rw [hd]
    rw [askE] at hk ⊢
    obtain ⟨sl, ts, rs⟩ := e
    simp only [Ear.av]
    simp only at h1 h2
    by_cases hc : ck ⟨sl, ts, rs⟩ = 0
    · rw [if_neg (by simp [hc])] at hk ⊢
      by_cases hx : 0 ≤ x ∧ x ≤ (ts.length : Int) - 1
      · have hxd : decide (0 ≤ x ∧ x ≤ (ts.length : Int) - 1) = true := decide_eq_true hx
        by_cases hwd : width < 0
        · have hv : gateW ts.length x width = 1 := by unfold gateW; rw [if_pos hx, if_pos hwd]
          rw [hv, if_pos (by decide)]
          simp -implicitDefEqProofs (maxSteps := 2000000) (disch := omega) only [go_sem, reduceCtorEq, Nat.reduceAdd, Nat.reduceSub, Nat.reduceMul, Nat.reduceLT, Nat.reduceLeDiff, Nat.reduceEqDiff, Nat.reduceBEq, Int.reduceToNat, Int.reduceLT, Int.reduceLE, Int.reduceEq, Int.reduceNeg, Int.reduceAdd, Int.reduceSub, Int.reduceMul, ↓reduceIte, Int.reduceBEq, Int.reduceBNe, hc, hxd]
        · have hv : gateW ts.length x width = 0 := by unfold gateW; rw [if_pos hx, if_neg hwd]
          rw [hv, if_neg (by simp)] at hk ⊢
          have hn : truthsL ⟨sl, ts, rs⟩ = [] := by
            apply Classical.byContradiction
            intro h; rw [if_neg h] at hk; exact hk rfl
          have hR2 : rallL ⟨sl, ts, rs⟩ [] = [] := truthsR_nil.2 hn
          rw [if_pos hn]
          simp -implicitDefEqProofs (maxSteps := 2000000) (disch := omega) only [go_sem, reduceCtorEq, Nat.reduceAdd, Nat.reduceSub, Nat.reduceMul, Nat.reduceLT, Nat.reduceLeDiff, Nat.reduceEqDiff, Nat.reduceBEq, Int.reduceToNat, Int.reduceLT, Int.reduceLE, Int.reduceEq, Int.reduceNeg, Int.reduceAdd, Int.reduceSub, Int.reduceMul, ↓reduceIte, Int.reduceBEq, Int.reduceBNe, hc, hxd, small0, hR2, tss, List.map_nil]
      · have hxd : (if 0 ≤ x ∧ x ≤ (ts.length : Int) - 1 then (0 : Int) else 3) = 3 := if_neg hx
        have hv : gateW ts.length x width = 3 := by unfold gateW; rw [if_neg hx]
        rw [hv, if_pos (by decide)]
        clear hx
        simp -implicitDefEqProofs (maxSteps := 2000000) (disch := omega) only [go_sem, reduceCtorEq, Nat.reduceAdd, Nat.reduceSub, Nat.reduceMul, Nat.reduceLT, Nat.reduceLeDiff, Nat.reduceEqDiff, Nat.reduceBEq, Int.reduceToNat, Int.reduceLT, Int.reduceLE, Int.reduceEq, Int.reduceNeg, Int.reduceAdd, Int.reduceSub, Int.reduceMul, ↓reduceIte, Int.reduceBEq, Int.reduceBNe, hc, hxd]
    · rw [if_pos hc]
      simp -implicitDefEqProofs (maxSteps := 2000000) (disch := omega) only [go_sem, reduceCtorEq, Nat.reduceAdd, Nat.reduceSub, Nat.reduceMul, Nat.reduceLT, Nat.reduceLeDiff, Nat.reduceEqDiff, Nat.reduceBEq, Int.reduceToNat, Int.reduceLT, Int.reduceLE, Int.reduceEq, Int.reduceNeg, Int.reduceAdd, Int.reduceSub, Int.reduceMul, ↓reduceIte, Int.reduceBEq, Int.reduceBNe, hc]
end Go.Proofs
set_option linter.unusedSimpArgs false
set_option linter.unusedVariables false
set_option maxRecDepth 100000
namespace Go.Proofs
open Go Go.Mu

theorem okO_sub {r : Rd} {L l : List (List Int)} (h : okO r L) (h1 : l.length ≤ L.length) (h2 : ∀ t ∈ l, t ∈ L) : okO r l := ⟨h.1, by have := h.2.1; omega, fun T hT => h.2.2 T (h2 T hT)⟩
theorem verd3 {x : Int} {w : Rng} {L : List (List Int)} : (verd (L.filter (qis x w)).length L.length = 3) = (qin x w L = false) := by
  unfold qin; simp
set_option maxHeartbeats 8000000 in
theorem rdecided_p (sl x : Int) (w : Rng) (rl : List Rd) (hsl : 0 ≤ sl ∧ sl ≤ 3) (hx : 0 ≤ x) (hrl : rl.length ≤ 100000) : ∀ (n : Nat) (m : Int) (hm : m = n) (hn : n ≤ 10) (L : List (List Int)), inT x L → L.length ≤ 100000 → (∀ r ∈ rl, okO r L) →
    PureV Try.prog 92 [.int .i64 sl, tss L, .int .i64 x, w.av, .list .no 6 (rl.map Rd.av), .int .i64 m] (.bool (decR x w rl sl n L)) := by
  obtain ⟨wl, wh⟩ := w
  intro n
  induction n with
  | zero =>
    intro m hm _ L hi hL _
    subst hm
    refine PureV.of_ev (E := Try.E 60 Try.ord92 fs117) (Try.envOK 60 Try.ord92 fs117 fs117_ok) (.bool) Try.kp92 Try.func92 rfl (by kernel_rfl) (by simp [Try.E]) (Callable.of Try.func92 (by kernel_rfl) (by kernel_rfl)) (by kernel_rfl) ?_
    intro σ
    cases hq : qin x ⟨wl, wh⟩ L
    · have hv : verd (L.filter (qis x ⟨wl, wh⟩)).length L.length = 3 := verd3.mpr hq
      simp only [tss, Rng.av, decR, hq]
      simp -implicitDefEqProofs (maxSteps := 2000000) (disch := omega) only [go_sem, reduceCtorEq, Nat.reduceAdd, Nat.reduceSub, Nat.reduceMul, Nat.reduceLT, Nat.reduceLeDiff, Nat.reduceEqDiff, Nat.reduceBEq, Int.reduceToNat, Int.reduceLT, Int.reduceLE, Int.reduceEq, Int.reduceNeg, Int.reduceAdd, Int.reduceSub, Int.reduceMul, ↓reduceIte, Int.reduceBEq, Int.reduceBNe, hi, hv]
      refine ARun.once (Try.envOK 60 Try.ord92 fs117 fs117_ok) (by kernel_rfl) ?_
      rcases Nat.eq_zero_or_pos rl.length with h0 | h0
      · simp -implicitDefEqProofs (maxSteps := 2000000) (disch := omega) only [go_sem, reduceCtorEq, Nat.reduceAdd, Nat.reduceSub, Nat.reduceMul, Nat.reduceLT, Nat.reduceLeDiff, Nat.reduceEqDiff, Nat.reduceBEq, Int.reduceToNat, Int.reduceLT, Int.reduceLE, Int.reduceEq, Int.reduceNeg, Int.reduceAdd, Int.reduceSub, Int.reduceMul, ↓reduceIte, Int.reduceBEq, Int.reduceBNe]
      · simp -implicitDefEqProofs (maxSteps := 2000000) (disch := omega) only [go_sem, reduceCtorEq, Nat.reduceAdd, Nat.reduceSub, Nat.reduceMul, Nat.reduceLT, Nat.reduceLeDiff, Nat.reduceEqDiff, Nat.reduceBEq, Int.reduceToNat, Int.reduceLT, Int.reduceLE, Int.reduceEq, Int.reduceNeg, Int.reduceAdd, Int.reduceSub, Int.reduceMul, ↓reduceIte, Int.reduceBEq, Int.reduceBNe]
    · have hv : ¬ verd (L.filter (qis x ⟨wl, wh⟩)).length L.length = 3 := fun h => by rw [verd3, hq] at h; cases h
      simp only [tss, Rng.av, decR, hq]
      simp -implicitDefEqProofs (maxSteps := 2000000) (disch := omega) only [go_sem, reduceCtorEq, Nat.reduceAdd, Nat.reduceSub, Nat.reduceMul, Nat.reduceLT, Nat.reduceLeDiff, Nat.reduceEqDiff, Nat.reduceBEq, Int.reduceToNat, Int.reduceLT, Int.reduceLE, Int.reduceEq, Int.reduceNeg, Int.reduceAdd, Int.reduceSub, Int.reduceMul, ↓reduceIte, Int.reduceBEq, Int.reduceBNe, hi, hv]
  | succ n ih =>
    intro m hm hn L hi hL ho
    refine PureV.of_ev (E := Try.E 60 Try.ord92 fs117) (Try.envOK 60 Try.ord92 fs117 fs117_ok) (.bool) Try.kp92 Try.func92 rfl (by kernel_rfl) (by simp [Try.E]) (Callable.of Try.func92 (by kernel_rfl) (by kernel_rfl)) (by kernel_rfl) ?_
    intro σ
    have hmp : 0 < m ∧ m ≤ 100 := by omega
    have hdr : decR x ⟨wl, wh⟩ rl sl (n + 1) L = (qin x ⟨wl, wh⟩ L || rl.any fun r => (outsR r sl L).all fun l => decR x ⟨wl, wh⟩ rl sl n l) := rfl
    rw [hdr]
    cases hq : qin x ⟨wl, wh⟩ L
    case true =>
      have hv : ¬ verd (L.filter (qis x ⟨wl, wh⟩)).length L.length = 3 := fun h => by rw [verd3, hq] at h; cases h
      simp only [tss, Rng.av, Bool.true_or]
      simp -implicitDefEqProofs (maxSteps := 2000000) (disch := omega) only [go_sem, reduceCtorEq, Nat.reduceAdd, Nat.reduceSub, Nat.reduceMul, Nat.reduceLT, Nat.reduceLeDiff, Nat.reduceEqDiff, Nat.reduceBEq, Int.reduceToNat, Int.reduceLT, Int.reduceLE, Int.reduceEq, Int.reduceNeg, Int.reduceAdd, Int.reduceSub, Int.reduceMul, ↓reduceIte, Int.reduceBEq, Int.reduceBNe, hi, hv]
    have hv : verd (L.filter (qis x ⟨wl, wh⟩)).length L.length = 3 := verd3.mpr hq
    simp only [tss, Rng.av, Bool.false_or]
    simp -implicitDefEqProofs (maxSteps := 2000000) (disch := omega) only [go_sem, reduceCtorEq, Nat.reduceAdd, Nat.reduceSub, Nat.reduceMul, Nat.reduceLT, Nat.reduceLeDiff, Nat.reduceEqDiff, Nat.reduceBEq, Int.reduceToNat, Int.reduceLT, Int.reduceLE, Int.reduceEq, Int.reduceNeg, Int.reduceAdd, Int.reduceSub, Int.reduceMul, ↓reduceIte, Int.reduceBEq, Int.reduceBNe, hi, hv]
    clear hv hq hdr
    obtain ⟨g, hg⟩ : ∃ g : Rd → Bool, g = fun r => (outsR r sl L).all fun l => decR x ⟨wl, wh⟩ rl sl n l := ⟨_, rfl⟩
    rw [← hg]
    refine ARun.forS (Try.envOK 60 Try.ord92 fs117 fs117_ok) rl.length (fun i => (rl.take i).any g = false) (fun i => [(13, .int .i64 i)]) (fun i j => σ ++ (.cells [.int .i64 wl, .int .i64 wh] :: j)) [] (by kernel_rfl) rfl (by simp [upd, ins, subF, lookA]) rfl ?_ ?_
    · intro i j hi2 hP ihl
      have hri : idx (rl.map Rd.av) (i : Int) = some rl[i].av := idx_map hi2
      have hos := ho _ (List.getElem_mem hi2)
      have hol := outsR_len hsl hos
      have hPs := any_take_succ (f := g) hi2
      rw [hP, Bool.false_or] at hPs
      have hgi : g rl[i] = (outsR rl[i] sl L).all fun l => decR x ⟨wl, wh⟩ rl sl n l := by rw [hg]
      have hany : g rl[i] = true → rl.any g = true := fun h => List.any_eq_true.2 ⟨_, List.getElem_mem hi2, h⟩
      have hoe : ∀ l ∈ outsR rl[i] sl L, inT x l ∧ l.length ≤ 100000 ∧ ∀ r ∈ rl, okO r l := fun l hl => by
        obtain ⟨a1, a2, a3⟩ := outs_elem hl
        exact ⟨fun t ht => hi t (a3 t ht), by omega, fun r hr => okO_sub (ho r hr) a2 a3⟩
      generalize g rl[i] = gi at hPs hgi hany
      generalize rl[i] = ri at hri hos hol hgi hoe
      obtain ⟨k0, k1, k2, k3, ⟨k4, k5⟩⟩ := ri
      simp only [Rd.av] at hri
      simp -implicitDefEqProofs (maxSteps := 2000000) (disch := omega) only [go_sem, reduceCtorEq, Nat.reduceAdd, Nat.reduceSub, Nat.reduceMul, Nat.reduceLT, Nat.reduceLeDiff, Nat.reduceEqDiff, Nat.reduceBEq, Int.reduceToNat, Int.reduceLT, Int.reduceLE, Int.reduceEq, Int.reduceNeg, Int.reduceAdd, Int.reduceSub, Int.reduceMul, ↓reduceIte, Int.reduceBEq, Int.reduceBNe, hri, hos, hsl, tsss]
      generalize outsR ⟨k0, k1, k2, k3, ⟨k4, k5⟩⟩ sl L = O at hol hgi hoe ⊢
      refine ARun.forS (Try.envOK 60 Try.ord92 fs117 fs117_ok) O.length (fun _ => True) (fun k => [(15, .bool ((O.take k).all fun l => decR x ⟨wl, wh⟩ rl sl n l)), (16, .int .i64 k)]) (fun k j2 => σ ++ (.cells [.int .i64 wl, .int .i64 wh] :: j)) [] (by kernel_rfl) rfl (by simp [upd, ins, subF, lookA]) trivial ?_ ?_
      · intro k j2 hk _ ih2
        have hrk := idx_tsss hk
        obtain ⟨a1, a2, a3⟩ := hoe _ (List.getElem_mem hk)
        have ihk := ih (m - 1) (by omega) (by omega) O[k] a1 a2 a3
        rw [all_take_succ hk] at ih2
        clear hoe hgi ihl hP hPs hany hos
        generalize ((O.take k).all fun l => decR x ⟨wl, wh⟩ rl sl n l) = A at ih2 ⊢
        generalize decR x ⟨wl, wh⟩ rl sl n O[k] = B at ih2 ihk
        generalize O[k] = Ok at hrk ihk
        simp only [tss, Rng.av] at hrk ihk
        cases A
        · rw [Bool.false_and] at ih2
          simp -implicitDefEqProofs (maxSteps := 2000000) (disch := omega) only [go_sem, reduceCtorEq, Nat.reduceAdd, Nat.reduceSub, Nat.reduceMul, Nat.reduceLT, Nat.reduceLeDiff, Nat.reduceEqDiff, Nat.reduceBEq, Int.reduceToNat, Int.reduceLT, Int.reduceLE, Int.reduceEq, Int.reduceNeg, Int.reduceAdd, Int.reduceSub, Int.reduceMul, ↓reduceIte, Int.reduceBEq, Int.reduceBNe, hrk]
          exact (ih2 trivial j2).castS rfl (by simp [upd, ins, subF, lookA])
        · rw [Bool.true_and] at ih2
          simp -implicitDefEqProofs (maxSteps := 2000000) (disch := omega) only [go_sem, reduceCtorEq, Nat.reduceAdd, Nat.reduceSub, Nat.reduceMul, Nat.reduceLT, Nat.reduceLeDiff, Nat.reduceEqDiff, Nat.reduceBEq, Int.reduceToNat, Int.reduceLT, Int.reduceLE, Int.reduceEq, Int.reduceNeg, Int.reduceAdd, Int.reduceSub, Int.reduceMul, ↓reduceIte, Int.reduceBEq, Int.reduceBNe, hrk]
          refine ihk _ _ ?_
          cases B
          · simp -implicitDefEqProofs (maxSteps := 2000000) (disch := omega) only [go_sem, reduceCtorEq, Nat.reduceAdd, Nat.reduceSub, Nat.reduceMul, Nat.reduceLT, Nat.reduceLeDiff, Nat.reduceEqDiff, Nat.reduceBEq, Int.reduceToNat, Int.reduceLT, Int.reduceLE, Int.reduceEq, Int.reduceNeg, Int.reduceAdd, Int.reduceSub, Int.reduceMul, ↓reduceIte, Int.reduceBEq, Int.reduceBNe, hrk]
            exact (ih2 trivial j2).castS rfl (by simp [upd, ins, subF, lookA])
          · simp -implicitDefEqProofs (maxSteps := 2000000) (disch := omega) only [go_sem, reduceCtorEq, Nat.reduceAdd, Nat.reduceSub, Nat.reduceMul, Nat.reduceLT, Nat.reduceLeDiff, Nat.reduceEqDiff, Nat.reduceBEq, Int.reduceToNat, Int.reduceLT, Int.reduceLE, Int.reduceEq, Int.reduceNeg, Int.reduceAdd, Int.reduceSub, Int.reduceMul, ↓reduceIte, Int.reduceBEq, Int.reduceBNe, hrk]
            exact (ih2 trivial j2).castS rfl (by simp [upd, ins, subF, lookA])
      · intro j2 _
        rw [List.take_length, ← hgi]
        cases gi
        · simp -implicitDefEqProofs (maxSteps := 2000000) (disch := omega) only [go_sem, reduceCtorEq, Nat.reduceAdd, Nat.reduceSub, Nat.reduceMul, Nat.reduceLT, Nat.reduceLeDiff, Nat.reduceEqDiff, Nat.reduceBEq, Int.reduceToNat, Int.reduceLT, Int.reduceLE, Int.reduceEq, Int.reduceNeg, Int.reduceAdd, Int.reduceSub, Int.reduceMul, ↓reduceIte, Int.reduceBEq, Int.reduceBNe]
          exact (ihl hPs j).castS rfl (by simp [upd, ins, subF, lookA])
        · have := hany rfl
          rw [this]
          simp -implicitDefEqProofs (maxSteps := 2000000) (disch := omega) only [go_sem, reduceCtorEq, Nat.reduceAdd, Nat.reduceSub, Nat.reduceMul, Nat.reduceLT, Nat.reduceLeDiff, Nat.reduceEqDiff, Nat.reduceBEq, Int.reduceToNat, Int.reduceLT, Int.reduceLE, Int.reduceEq, Int.reduceNeg, Int.reduceAdd, Int.reduceSub, Int.reduceMul, ↓reduceIte, Int.reduceBEq, Int.reduceBNe]
    · intro j hP
      rw [List.take_length] at hP
      rw [hP]
      simp -implicitDefEqProofs (maxSteps := 2000000) (disch := omega) only [go_sem, reduceCtorEq, Nat.reduceAdd, Nat.reduceSub, Nat.reduceMul, Nat.reduceLT, Nat.reduceLeDiff, Nat.reduceEqDiff, Nat.reduceBEq, Int.reduceToNat, Int.reduceLT, Int.reduceLE, Int.reduceEq, Int.reduceNeg, Int.reduceAdd, Int.reduceSub, Int.reduceMul, ↓reduceIte, Int.reduceBEq, Int.reduceBNe]
end Go.Proofs
set_option linter.unusedSimpArgs false
set_option linter.unusedVariables false
set_option maxRecDepth 100000
namespace Go.Proofs
open Go Go.Mu

set_option maxHeartbeats 4000000 in
theorem rNeeds_p (e : Ear) (x : Int) (w : Rng) (gs : List Int) (h1 : e.tones.length ≤ 4294967296) (h2 : e.rds.length ≤ 4294967296) (h3 : gs.length ≤ 4294967296) :
    PureV Try.prog 26 [e.av, .int .i64 x, w.av, .list .no 1 (gs.map (.int .i64))] (.tup [.int .i64 (needsL e x w gs).1, .int .i64 (needsL e x w gs).2]) := by
  refine PureV.of_ev (E := Try.E 48 Try.ord26 fs117) (Try.envOK 48 Try.ord26 fs117 fs117_ok) (ii_plain) Try.kp26 Try.func26 rfl (by kernel_rfl) (by simp [Try.E]) (Callable.of Try.func26 (by kernel_rfl) (by kernel_rfl)) (by kernel_rfl) ?_
  intro σ
  by_cases hk : (askL e (needW e.tones.length x w gs)).2 = 0
  · obtain ⟨hc, hw, hn, hke⟩ := askL_ok hk
    have he := okE_of_ck hc
    have hlen := he.len
    have hw1 : ckWant e.tones.length x w = 0 := by unfold needW at hw; split at hw <;> simp_all
    have hw2 : ckGates gs = 0 := by unfold needW at hw; rw [if_pos hw1] at hw; exact hw
    have hx := ckWant_ok hw1
    obtain ⟨g1, g2, g3⟩ := ckGates_ok hw2
    have hR : rallL e [] = truthsR e := rfl
    have hR0 : truthsR e ≠ [] := fun h => hn (truthsR_nil.1 h)
    have hsl := he.sl
    have hbt : (truthsR e).length ≤ 100000 := by have := truthsR_len he; omega
    have hck := byGatesL_ck (m := e.tones.length) hlen g3
    have hll := byGatesL_len (m := e.tones.length) (gs := gs) hlen (by omega)
    have ho : ∀ r ∈ byGatesL e.tones.length gs, okO r (truthsR e) := fun r hr => okO_truths hc (hck r hr)
    have hinT : inT x (truthsR e) := fun t ht => by rw [(truthsR_ok he t ht).1]; omega
    have hsm : ∀ t ∈ truthsL e, small t := fun t ht => (truthsL_ok he t ht).2
    have q0 : decR x w (byGatesL e.tones.length gs) e.slack 0 (truthsR e) = qin x w (truthsL e) := qin_take hx.1 (by omega)
    have q1 : decR x w (byGatesL e.tones.length gs) e.slack 1 (truthsR e) = oneL x w (byGatesL e.tones.length gs) e.slack (truthsL e) := decR_one hsl.1 hlen ⟨hx.1, by omega⟩ hck hsm
    have q2 : decR x w (byGatesL e.tones.length gs) e.slack 2 (truthsR e) = (qin x w (truthsL e) || twoL x w (byGatesL e.tones.length gs) e.slack (truthsL e)) := decR_two hsl.1 hlen ⟨hx.1, by omega⟩ hck hsm
    obtain ⟨D, hD⟩ : ∃ D : Nat → Bool, D = fun i => decR x w (byGatesL e.tones.length gs) e.slack i (truthsR e) := ⟨_, rfl⟩
    have hDi : ∀ i, decR x w (byGatesL e.tones.length gs) e.slack i (truthsR e) = D i := fun i => by rw [hD]
    rw [hDi] at q0 q1 q2
    obtain ⟨V, hV⟩ : ∃ V, needsL e x w gs = V := ⟨_, rfl⟩
    have hV2 : V = if D 0 then (0, 0) else if D 1 then (1, 0) else if D 2 then (2, 0) else (0, 11) := by
      rw [← hV]; unfold needsL
      rw [if_pos hk, q0, q1, q2]
      cases qin x w (truthsL e) <;> simp
    rw [hV]
    obtain ⟨s, ts, rs⟩ := e
    obtain ⟨wl, wh⟩ := w
    dsimp only at *
    have hdp := fun (n : Nat) (hn : n ≤ 10) => rdecided_p s x ⟨wl, wh⟩ (byGatesL ts.length gs) hsl hx.1 (by omega) n n rfl hn (truthsR ⟨s, ts, rs⟩) hinT hbt ho
    simp only [hDi] at hdp
    clear hk hke hn he hV q0 q1 q2 hD hDi ho hck hsm hinT hw g1 g3
    generalize hBG : byGatesL ts.length gs = BG at hll hdp
    generalize truthsR ⟨s, ts, rs⟩ = L at hR hR0 hbt hdp
    have hL0 : ¬ L.length = 0 := fun h => hR0 (List.length_eq_zero_iff.1 h)
    simp only [Ear.av, Rng.av, tss] at hdp ⊢
    simp -implicitDefEqProofs (maxSteps := 2000000) (disch := omega) only [go_sem, reduceCtorEq, Nat.reduceAdd, Nat.reduceSub, Nat.reduceMul, Nat.reduceLT, Nat.reduceLeDiff, Nat.reduceEqDiff, Nat.reduceBEq, Int.reduceToNat, Int.reduceLT, Int.reduceLE, Int.reduceEq, Int.reduceNeg, Int.reduceAdd, Int.reduceSub, Int.reduceMul, ↓reduceIte, Int.reduceBEq, Int.reduceBNe, hc, hw1, hw2, small0, hR, tss]
    refine ARun.forS (Try.envOK 48 Try.ord26 fs117 fs117_ok) 3 (fun i => ∀ k, k < i → D k = false) (fun i => [(13, .int .i64 i)]) (fun i j => σ ++ (.cells [.int .i64 s, .list .no 2 (ts.map Rng.av), .list .no 6 (rs.map Rd.av)] :: .cells [.int .i64 wl, .int .i64 wh] :: j)) [] (by kernel_rfl) rfl (by simp [upd, ins, subF, lookA]) (fun k hk => by omega) ?_ ?_
    · intro i j hi hP ih
      have hdi := hdp i (by omega)
      simp -implicitDefEqProofs (maxSteps := 2000000) (disch := omega) only [go_sem, reduceCtorEq, Nat.reduceAdd, Nat.reduceSub, Nat.reduceMul, Nat.reduceLT, Nat.reduceLeDiff, Nat.reduceEqDiff, Nat.reduceBEq, Int.reduceToNat, Int.reduceLT, Int.reduceLE, Int.reduceEq, Int.reduceNeg, Int.reduceAdd, Int.reduceSub, Int.reduceMul, ↓reduceIte, Int.reduceBEq, Int.reduceBNe, tss, hBG]
      refine hdi _ _ ?_
      cases hDv : D i
      · simp -implicitDefEqProofs (maxSteps := 2000000) (disch := omega) only [go_sem, reduceCtorEq, Nat.reduceAdd, Nat.reduceSub, Nat.reduceMul, Nat.reduceLT, Nat.reduceLeDiff, Nat.reduceEqDiff, Nat.reduceBEq, Int.reduceToNat, Int.reduceLT, Int.reduceLE, Int.reduceEq, Int.reduceNeg, Int.reduceAdd, Int.reduceSub, Int.reduceMul, ↓reduceIte, Int.reduceBEq, Int.reduceBNe]
        exact (ih (fun k hk => by
          rcases Nat.lt_or_ge k i with h | h
          · exact hP k h
          · have : k = i := by omega
            subst this; exact hDv) j).castS rfl (by simp [upd, ins, subF, lookA])
      · have hV3 : V = ((i : Int), 0) := by
          rw [hV2]
          rcases (by omega : i = 0 ∨ i = 1 ∨ i = 2) with rfl | rfl | rfl
          · simp [hDv]
          · simp [hP 0 (by omega), hDv]
          · simp [hP 0 (by omega), hP 1 (by omega), hDv]
        subst hV3
        clear hV2
        simp -implicitDefEqProofs (maxSteps := 2000000) (disch := omega) only [go_sem, reduceCtorEq, Nat.reduceAdd, Nat.reduceSub, Nat.reduceMul, Nat.reduceLT, Nat.reduceLeDiff, Nat.reduceEqDiff, Nat.reduceBEq, Int.reduceToNat, Int.reduceLT, Int.reduceLE, Int.reduceEq, Int.reduceNeg, Int.reduceAdd, Int.reduceSub, Int.reduceMul, ↓reduceIte, Int.reduceBEq, Int.reduceBNe]
    · intro j hP
      have hV3 : V = (0, 11) := by rw [hV2]; simp [hP 0 (by omega), hP 1 (by omega), hP 2 (by omega)]
      subst hV3
      clear hV2 hdp
      simp -implicitDefEqProofs (maxSteps := 2000000) (disch := omega) only [go_sem, reduceCtorEq, Nat.reduceAdd, Nat.reduceSub, Nat.reduceMul, Nat.reduceLT, Nat.reduceLeDiff, Nat.reduceEqDiff, Nat.reduceBEq, Int.reduceToNat, Int.reduceLT, Int.reduceLE, Int.reduceEq, Int.reduceNeg, Int.reduceAdd, Int.reduceSub, Int.reduceMul, ↓reduceIte, Int.reduceBEq, Int.reduceBNe]
  · have hd : needsL e x w gs = (0, (askL e (needW e.tones.length x w gs)).2) := by unfold needsL; rw [if_neg hk]
    rw [hd]
    rw [askE] at hk ⊢
    obtain ⟨s, ts, rs⟩ := e
    obtain ⟨wl, wh⟩ := w
    simp only [Ear.av, Rng.av]
    simp only at h1 h2
    by_cases hc : ck ⟨s, ts, rs⟩ = 0
    · rw [if_neg (by simp [hc])] at hk ⊢
      by_cases hw1 : ckWant ts.length x ⟨wl, wh⟩ = 0
      · by_cases hw2 : ckGates gs = 0
        · have hv : needW ts.length x ⟨wl, wh⟩ gs = 0 := by unfold needW; rw [if_pos hw1]; exact hw2
          rw [if_neg (by simp [hv])] at hk ⊢
          have hn : truthsL ⟨s, ts, rs⟩ = [] := by
            apply Classical.byContradiction
            intro h; rw [if_neg h] at hk; exact hk rfl
          have hR2 : rallL ⟨s, ts, rs⟩ [] = [] := truthsR_nil.2 hn
          rw [if_pos hn]
          simp -implicitDefEqProofs (maxSteps := 2000000) (disch := omega) only [go_sem, reduceCtorEq, Nat.reduceAdd, Nat.reduceSub, Nat.reduceMul, Nat.reduceLT, Nat.reduceLeDiff, Nat.reduceEqDiff, Nat.reduceBEq, Int.reduceToNat, Int.reduceLT, Int.reduceLE, Int.reduceEq, Int.reduceNeg, Int.reduceAdd, Int.reduceSub, Int.reduceMul, ↓reduceIte, Int.reduceBEq, Int.reduceBNe, hc, hw1, hw2, small0, hR2, tss, List.map_nil]
        · have hv : needW ts.length x ⟨wl, wh⟩ gs = ckGates gs := by unfold needW; rw [if_pos hw1]
          rw [hv, if_pos hw2]
          generalize hq : ckGates gs = q at hw2 ⊢
          simp -implicitDefEqProofs (maxSteps := 2000000) (disch := omega) only [go_sem, reduceCtorEq, Nat.reduceAdd, Nat.reduceSub, Nat.reduceMul, Nat.reduceLT, Nat.reduceLeDiff, Nat.reduceEqDiff, Nat.reduceBEq, Int.reduceToNat, Int.reduceLT, Int.reduceLE, Int.reduceEq, Int.reduceNeg, Int.reduceAdd, Int.reduceSub, Int.reduceMul, ↓reduceIte, Int.reduceBEq, Int.reduceBNe, hc, hw1, hq, hw2]
      · have hv : needW ts.length x ⟨wl, wh⟩ gs = ckWant ts.length x ⟨wl, wh⟩ := by unfold needW; rw [if_neg hw1]
        rw [hv, if_pos hw1]
        generalize hq : ckWant ts.length x ⟨wl, wh⟩ = q at hw1 ⊢
        simp -implicitDefEqProofs (maxSteps := 2000000) (disch := omega) only [go_sem, reduceCtorEq, Nat.reduceAdd, Nat.reduceSub, Nat.reduceMul, Nat.reduceLT, Nat.reduceLeDiff, Nat.reduceEqDiff, Nat.reduceBEq, Int.reduceToNat, Int.reduceLT, Int.reduceLE, Int.reduceEq, Int.reduceNeg, Int.reduceAdd, Int.reduceSub, Int.reduceMul, ↓reduceIte, Int.reduceBEq, Int.reduceBNe, hc, hq, hw1]
    · rw [if_pos hc]
      simp -implicitDefEqProofs (maxSteps := 2000000) (disch := omega) only [go_sem, reduceCtorEq, Nat.reduceAdd, Nat.reduceSub, Nat.reduceMul, Nat.reduceLT, Nat.reduceLeDiff, Nat.reduceEqDiff, Nat.reduceBEq, Int.reduceToNat, Int.reduceLT, Int.reduceLE, Int.reduceEq, Int.reduceNeg, Int.reduceAdd, Int.reduceSub, Int.reduceMul, ↓reduceIte, Int.reduceBEq, Int.reduceBNe, hc]
def rNeeds_s := spec4 tEar tI tRng tIs fun e x w gs => if e.tones.length ≤ 4294967296 ∧ e.rds.length ≤ 4294967296 ∧ gs.length ≤ 4294967296 then some (.tup [.int .i64 (needsL e x w gs).1, .int .i64 (needsL e x w gs).2]) else none
theorem rNeeds_ok : ∀ xs v, rNeeds_s xs = some v → PureV Try.prog 26 xs v :=
  spec4_ok fun e x w gs v h => by have h := someIf h; rw [← h.2]; exact rNeeds_p e x w gs h.1.1 h.1.2.1 h.1.2.2
def rGate_s := spec3 tEar tI tI fun e a b => if e.tones.length ≤ 4294967296 ∧ e.rds.length ≤ 4294967296 then some (.tup [.int .i64 (gateL e a b).1, .int .i64 (gateL e a b).2]) else none
theorem rGate_ok : ∀ xs v, rGate_s xs = some v → PureV Try.prog 24 xs v :=
  spec3_ok fun e a b v h => by have h := someIf h; rw [← h.2]; exact rGate_p e a b h.1.1 h.1.2
end Go.Proofs
