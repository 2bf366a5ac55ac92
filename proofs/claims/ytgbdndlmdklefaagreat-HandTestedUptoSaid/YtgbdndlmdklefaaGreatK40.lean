/- The environment in which the first append to an empty literal of some types gives a slice that is written into. -/
import Derived.Test.YtgbdndlmdklefaaGreatK33
import Derived.Test.YtgbdndlmdklefaaGreatK38
import Derived.Test.YtgbdndlmdklefaaGreatK39
import Derived.Test.YtgbdndlmdklefaaGreatK35
import Derived.Test.YtgbdndlmdklefaaGreatK16
set_option linter.unusedSimpArgs false
set_option linter.unusedVariables false
set_option maxRecDepth 100000
namespace Go.Proofs
open Go Go.Mu Go.Ins

theorem hfirstE_of {α : Type} {f : α → Int} : ∀ {l : List α}, (∀ x ∈ l, f x = 0) → firstE f l = 0
  | [], _ => rfl
  | x :: l, h => by
    show (if f x = 0 then firstE f l else f x) = 0
    rw [if_pos (h x (by simp))]
    exact hfirstE_of fun y hy => h y (by simp [hy])
theorem truthsL_one (sl lo hi : Int) (rds : List Rd) : truthsL ⟨sl, [⟨lo, hi⟩], rds⟩ = (List.range (hi - lo + 1).toNat).flatMap fun (k : Nat) => allT ⟨sl, [⟨lo, hi⟩], rds⟩ 0 (setI [0, 0, 0] ((0 : Nat) : Int) (lo + k)) 1 := rfl
theorem trueT_chk {r : Ros} {rates : List Int} {w : Int} {x : Tn} {b : Int} (h : TrueT r rates w x b) (hw : 0 ≤ w ∧ w ≤ 10) (hs : 0 ≤ r.skill ∧ r.skill ≤ 3) :
    (chkE x r.hands).2 = 0 ∧ ∃ d ∈ (chkE x r.hands).1, -r.skill ≤ d - offX r rates b x.day ∧ d - offX r rates b x.day ≤ r.skill := by
  obtain ⟨t, lo, hi, rds, ⟨e1, e2⟩, g2, g3, g4⟩ := h.ear
  have hb := h.by_in
  have hd := h.day
  have hh := h.hand
  have hdu := h.due
  obtain ⟨day, hand, due, ear⟩ := x
  simp only at g4 hd hh hdu e1 e2 ⊢
  subst g4
  have hck : ck ⟨0, [⟨lo, hi⟩], rds⟩ = 0 := by
    unfold ck
    have hT : firstE ckT [(⟨lo, hi⟩ : Rng)] = 0 := by
      refine hfirstE_of (fun y hy => ?_)
      simp at hy; subst hy
      unfold ckT
      dsimp only
      repeat' split
      all_goals omega
    have hR : firstE (fun r => ckR r (1 : Nat)) rds = 0 := by
      refine hfirstE_of (fun y hy => ?_)
      rcases g3 with rfl | rfl
      · simp at hy
      · simp at hy; subst hy
        unfold ckR
        simp only
        repeat' split
        all_goals omega
    have hl : rds.length ≤ 1 := by rcases g3 with rfl | rfl <;> simp
    simp only [List.length_cons, List.length_nil, Nat.zero_add]
    rw [if_neg (by omega), if_neg (by omega), if_neg (by omega), if_neg (fun c => c hT), if_neg (by omega)]
    exact hR
  have htm : [t, 0, 0] ∈ truthsL ⟨0, [⟨lo, hi⟩], rds⟩ := by
    rw [truthsL_one, List.mem_flatMap]
    refine ⟨(t - lo).toNat, List.mem_range.2 (by omega), ?_⟩
    have hts : setI [0, 0, 0] ((0 : Nat) : Int) (lo + ((t - lo).toNat : Int)) = [t, 0, 0] := by
      rw [show lo + ((t - lo).toNat : Int) = t by omega]; rfl
    have hal : (rds.all fun r => isR r 0 [t, 0, 0]) = true := by
      rcases g3 with rfl | rfl
      · rfl
      · simp only [List.all_cons, List.all_nil, Bool.and_true, isR, if_true, tg]
        exact decide_eq_true (by
          have : ([t, 0, 0] : List Int).getD (Int.toNat 0) 0 = t := rfl
          rw [this]; omega)
    rw [hts]
    show [t, 0, 0] ∈ if (rds.all fun r => isR r 0 [t, 0, 0]) = true then [[t, 0, 0]] else []
    rw [if_pos hal]; simp
  have hn : truthsL ⟨0, [⟨lo, hi⟩], rds⟩ ≠ [] := List.ne_nil_of_mem htm
  rw [chkE_one (by simp only; omega) (by simp only; omega) (by simp only; omega) hck rfl hn]
  refine ⟨rfl, t - due, List.mem_map.2 ⟨t, ?_, rfl⟩, by omega, by omega⟩
  have : t ∈ firstsL ((truthsL ⟨0, [⟨lo, hi⟩], rds⟩).map fun t => tg t 0) := (addN_mem _ [] _).2 (.inr (List.mem_map.2 ⟨[t, 0, 0], htm, rfl⟩))
  exact this
theorem TrueR.head {H E w : Int} {r : Ros} {rates by_ : List Int} (h : TrueR H E w r rates by_) (hH : H ≤ 4) (hE : E ≤ 5) : headE r = 0 := by
  have h1 := h.hands
  have h2 := h.skill
  have h3 := h.mn
  have h4 := h.mx
  have h5 := h.sl
  have h6 := h.el
  have hs : firstE (setE r.hands) r.sets = 0 := hfirstE_of fun s hs => by
    have := h.set s hs
    unfold setE
    rw [if_neg (by omega), if_neg (by omega)]
  unfold headE
  rw [if_neg (by omega), if_neg (by omega), if_neg (by omega), if_neg (fun c => c hs), if_neg (by omega)]
theorem TrueR.by_at {H E w : Int} {r : Ros} {rates by_ : List Int} (h : TrueR H E w r rates by_) {x : Tn} (hx : x ∈ r.ents) : ∃ b, TrueT r rates w x b := by
  obtain ⟨i, hi, rfl⟩ := List.mem_iff_getElem.1 hx
  exact ⟨_, h.ent i hi (by rw [h.bl]; exact hi)⟩
theorem TrueR.entE {H E w : Int} {r : Ros} {rates by_ : List Int} (h : TrueR H E w r rates by_) (hw : 0 ≤ w ∧ w ≤ 10) : entsE r = 0 := by
  unfold entsE
  refine firstNZ_zero fun e he => ?_
  obtain ⟨x, hx, rfl⟩ := List.mem_map.1 he
  obtain ⟨b, hb⟩ := h.by_at hx
  exact (trueT_chk hb hw h.skill).1
theorem TrueR.ro {H E w : Int} {r : Ros} {rates by_ : List Int} (h : TrueR H E w r rates by_) (hH : H ≤ 4) (hE : E ≤ 5) (hw : 0 ≤ w ∧ w ≤ 10) : rosE r = 0 := by
  unfold rosE; rw [if_neg (fun c => c (h.head hH hE))]; exact h.entE hw
/-- Who has these rates is among all. -/
theorem allR_mem {r : Ros} (s : Nat) : ∀ (m : Nat) (x : List Int) (a : Nat) (u : List Int), x.length = 4 → u.length = 4 → a + m ≤ 4 → (∀ i : Nat, i < a → tg u i = tg x i) → (∀ i : Nat, a ≤ i → i < a + m → if s.testBit i then r.mn ≤ tg u i ∧ tg u i ≤ r.mx ∧ tg u i ≠ 0 else tg u i = tg x i) → (∀ i : Nat, a + m ≤ i → tg u i = tg x i) → u ∈ allR r s m x a
  | 0, x, a, u, hx, hu, _, h1, _, h3 => by
    have : u = x := by
      apply List.ext_getElem (by omega)
      intro i g1 g2
      have e := (Nat.lt_or_ge i a).elim (h1 i) (fun g => h3 i (by omega))
      unfold tg at e
      rw [Int.toNat_natCast, List.getD_eq_getElem?_getD, List.getD_eq_getElem?_getD, List.getElem?_eq_getElem g1, List.getElem?_eq_getElem g2] at e
      simpa using e
    rw [this]; simp [allR]
  | m + 1, x, a, u, hx, hu, ha, h1, h2, h3 => by
    have htg : ∀ (n : Int) (i : Nat), tg (setI x a n) i = if i = a then n else tg x i := fun n i => by
      unfold tg setI
      simp only [Int.toNat_natCast, List.getD_eq_getElem?_getD, List.getElem?_set]
      by_cases e : a = i
      · subst e; simp [show a < x.length by omega]
      · rw [if_neg e, if_neg (fun h => e h.symm)]
    have ha2 := h2 a (Nat.le_refl _) (by omega)
    simp only [allR]
    by_cases hs : s.testBit a = true
    · rw [if_pos hs] at ha2
      rw [if_pos hs, List.mem_flatMap]
      refine ⟨(tg u a - r.mn).toNat, List.mem_range.2 (by omega), ?_⟩
      have e : r.mn + ((tg u a - r.mn).toNat : Int) = tg u a := by omega
      rw [e, if_neg ha2.2.2]
      refine allR_mem s m (setI x a (tg u a)) (a + 1) u (by simp [setI, hx]) hu (by omega) (fun i hi => ?_) (fun i g1 g2 => ?_) (fun i hi => ?_)
      · rw [htg]
        by_cases c : i = a
        · rw [if_pos c, c]
        · rw [if_neg c]; exact h1 i (Nat.lt_of_le_of_ne (Nat.le_of_lt_succ hi) c)
      · rw [htg, if_neg (show ¬ i = a by omega)]; exact h2 i (by omega) (by omega)
      · rw [htg, if_neg (show ¬ i = a by omega)]; exact h3 i (by omega)
    · rw [if_neg hs] at ha2
      rw [if_neg hs]
      refine allR_mem s m x (a + 1) u hx hu (by omega) (fun i hi => ?_) (fun i g1 g2 => h2 i (by omega) (by omega)) (fun i hi => h3 i (by omega))
      by_cases c : i = a
      · rw [c]; exact ha2
      · exact h1 i (by omega)
def padR (rates : List Int) : List Int := rates ++ List.replicate (4 - rates.length) 0
theorem padR_tg (rates : List Int) (i : Int) : tg (padR rates) i = tg rates i := by
  unfold tg padR
  simp only [List.getD, List.getElem?_append, List.getElem?_replicate]
  split
  · rfl
  · rename_i h
    rw [List.getElem?_eq_none (by omega)]
    split <;> rfl
/-- What truly was so is a truth; something explains the roster. -/
theorem TrueR.truth {H E w : Int} {r : Ros} {rates by_ : List Int} (h : TrueR H E w r rates by_) (hH : H ≤ 4) (hE : E ≤ 5) (hw : 0 ≤ w ∧ w ≤ 10) : padR rates ∈ htruthsR r (entsL r) (driftN (padR rates)) ∧ driftN (padR rates) < 2 ^ r.hands.toNat := by
  have h1 := h.hands
  have hrl := h.rl
  have hpl : (padR rates).length = 4 := by unfold padR; rw [List.length_append, List.length_replicate]; omega
  have hbig : ∀ i : Nat, rates.length ≤ i → tg (padR rates) i = 0 := fun i hi => by
    rw [padR_tg]; unfold tg; rw [Int.toNat_natCast, List.getD_eq_getElem?_getD, List.getElem?_eq_none hi]; rfl
  have hbit : ∀ i, (driftN (padR rates)).testBit i = (decide (i < 4) && decide (tg (padR rates) i ≠ 0)) := fun i => by unfold driftN; rw [bitsOf_test]
  constructor
  · unfold htruthsR
    rw [List.mem_filter]
    constructor
    · refine allR_mem _ _ _ _ _ rfl hpl (by omega) (fun i hi => by omega) (fun i g1 g2 => ?_) (fun i hi => ?_)
      · have h0 : tg ([0, 0, 0, 0] : List Int) i = 0 := by
          match i with
          | 0 => rfl
          | 1 => rfl
          | 2 => rfl
          | 3 => rfl
          | i + 4 => unfold tg; rw [Int.toNat_natCast]; rfl
        rw [h0, hbit, decide_eq_true (show i < 4 by omega), Bool.true_and]
        by_cases hz : tg (padR rates) i = 0
        · rw [decide_eq_false (fun c => c hz), if_neg (by simp)]; exact hz
        · rw [decide_eq_true hz, if_pos rfl]
          have hlt : i < rates.length := by omega
          have e : tg (padR rates) i = rates[i] := by rw [padR_tg]; unfold tg; rw [Int.toNat_natCast, List.getD_eq_getElem?_getD, List.getElem?_eq_getElem hlt]; rfl
          have := h.rate _ (List.getElem_mem hlt)
          rw [← e] at this
          rcases this with g | g
          · exact absurd g hz
          · exact ⟨g.1, g.2, hz⟩
      · rw [hbig i (by omega)]
        match i with
        | 0 => rfl
        | 1 => rfl
        | 2 => rfl
        | 3 => rfl
        | i + 4 => unfold tg; rw [Int.toNat_natCast]; rfl
    · unfold isB
      rw [List.all_eq_true]
      intro i hi
      have hi' := List.mem_range.1 hi
      have hT := h.ent i hi' (by rw [h.bl]; exact hi')
      have hb := hT.by_in
      rw [List.any_eq_true]
      refine ⟨(by_[i]'(by rw [h.bl]; exact hi')).toNat, List.mem_range.2 (by omega), ?_⟩
      rw [Int.toNat_of_nonneg hb.1]
      obtain ⟨_, d, hd, e1, e2⟩ := trueT_chk hT hw h.skill
      unfold byB
      have hgd : r.ents.getD i default = r.ents[i] := by simp [List.getD, List.getElem?_eq_getElem hi']
      have hgs : (entsL r).getD i [] = (chkE r.ents[i] r.hands).1 := by
        unfold entsL; simp [List.getD, List.getElem?_eq_getElem hi']
      rw [hgd, hgs, if_neg (by rcases hT.hand with g | g <;> omega), List.any_eq_true]
      have ho : offX r (padR rates) (by_[i]'(by rw [h.bl]; exact hi')) r.ents[i].day = offX r rates (by_[i]'(by rw [h.bl]; exact hi')) r.ents[i].day := by unfold offX; rw [padR_tg]
      exact ⟨d, hd, decide_eq_true (by rw [ho]; exact ⟨e1, e2⟩)⟩
  · refine Nat.lt_pow_two_of_testBit _ fun i hi => ?_
    rw [hbit]
    by_cases hz : tg (padR rates) i = 0
    · rw [decide_eq_false (p := tg (padR rates) i ≠ 0) (fun c => c hz), Bool.and_false]
    · exact absurd (hbig i (by omega)) hz
theorem TrueR.expl {H E w : Int} {r : Ros} {rates by_ : List Int} (h : TrueR H E w r rates by_) (hH : H ≤ 4) (hE : E ≤ 5) (hw : 0 ≤ w ∧ w ≤ 10) : explR r (entsL r) ≠ [] := by
  obtain ⟨t1, t2⟩ := h.truth hH hE hw
  have hhd := Ros.head_of (h.head hH hE)
  intro e
  rcases explR_spec r (entsL r) with ⟨_, g⟩ | ⟨m, _, g1, g2, _⟩
  · have hle : popN (driftN (padR rates)) ≤ r.hands.toNat := by
      have h4 := hhd.hands
      have hp : ∀ n s, s < 2 ^ n → popN s ≤ n := by
        intro n
        induction n with
        | zero => intro s hs; have : s = 0 := by simpa using hs
                  subst this; rw [popN_zero]; omega
        | succ n ih =>
          intro s hs
          rw [popN_step]
          have := ih (s / 2) (by rw [Nat.pow_succ] at hs; omega)
          omega
      exact hp _ _ t2
    have := g _ hle
    have hm := (foundR_mem hhd (m := popN (driftN (padR rates)))).2 ⟨_, t2, rfl, t1⟩
    rw [this] at hm; simp at hm
  · rw [g1] at e; exact g2 (addX_nil.1 e)
theorem TrueR.known {H E w : Int} {r : Ros} {rates by_ : List Int} (h : TrueR H E w r rates by_) (hH : H ≤ 4) (hE : E ≤ 5) (hw : 0 ≤ w ∧ w ≤ 10) {ws : List Int} (hz : firstNZ ws = 0) : knownE r ws = 0 := by
  unfold knownE
  rw [if_neg (fun c => c (h.ro hH hE hw)), if_neg (fun c => c hz), if_neg (h.expl hH hE hw)]
end Go.Proofs
set_option linter.unusedSimpArgs false
set_option linter.unusedVariables false
set_option maxRecDepth 100000
namespace Go.Proofs
open Go Go.Mu Go.Ins
variable {S : MC Tryz.prog}

end Go.Proofs
set_option linter.unusedSimpArgs false
set_option linter.unusedVariables false
set_option maxRecDepth 100000
namespace Go.Proofs
open Go Go.Mu Go.Ins

/-- A list of hands as a set. -/
def setN (l : List Int) : Nat := l.foldl (fun s h => s ||| 2 ^ h.toNat) 0
end Go.Proofs
set_option linter.unusedSimpArgs false
set_option linter.unusedVariables false
set_option maxRecDepth 100000
namespace Go.Proofs
open Go Go.Mu
variable {S : MC Tryz.prog}

/-- Lists of so many hands, ascending, from a on and below n. -/
def hcomb (n : Nat) : Nat → Nat → List (List Int)
  | 0, _ => [[]]
  | m + 1, a => (List.range (n - a)).flatMap fun k => (hcomb n m (a + k + 1)).map fun l => ((a + k : Nat) : Int) :: l
theorem hcomb_mem {n : Nat} : ∀ {m a : Nat} {l : List Int}, l ∈ hcomb n m a → l.length = m ∧ (∀ x ∈ l, (a : Int) ≤ x ∧ x < n) ∧ l.Pairwise (· < ·)
  | 0, a, l, h => by simp [hcomb] at h; subst h; simp
  | m + 1, a, l, h => by
    obtain ⟨k, hk, h2⟩ := List.mem_flatMap.1 h
    obtain ⟨u, hu, rfl⟩ := List.mem_map.1 h2
    obtain ⟨h3, h4, h5⟩ := hcomb_mem hu
    have hk' := List.mem_range.1 hk
    refine ⟨by simp [h3], fun x hx => ?_, ?_⟩
    · rcases List.mem_cons.1 hx with rfl | hx
      · omega
      · have := h4 x hx; omega
    · rw [List.pairwise_cons]
      exact ⟨fun y hy => by have := h4 y hy; omega, h5⟩
end Go.Proofs
set_option linter.unusedSimpArgs false
set_option linter.unusedVariables false
set_option maxRecDepth 100000
namespace Go.Proofs
open Go Go.Mu Go.Ins

theorem comb_set1 : ∀ n < 5, ∀ m < 5, ∀ x ∈ hcomb n m 0, setN x < 2 ^ n ∧ popF (setN x) = m ∧ listN (setN x) = x := by decide +kernel
theorem comb_set2 : ∀ n < 5, ∀ s < 2 ^ n, listN s ∈ hcomb n (popF s) 0 ∧ setN (listN s) = s := by decide +kernel
theorem comb_set : ∀ n < 5, ∀ m < 5, (∀ x ∈ hcomb n m 0, setN x < 2 ^ n ∧ popF (setN x) = m ∧ listN (setN x) = x) ∧ (∀ s < 2 ^ n, popF s = m → listN s ∈ hcomb n m 0 ∧ setN (listN s) = s) := fun n hn m hm =>
  ⟨comb_set1 n hn m hm, fun s hs e => by have := comb_set2 n hn s hs; rw [e] at this; exact this⟩
theorem comb_ord : ∀ n < 5, ∀ m < 5, (hcomb n m 0).Nodup ∧ (hcomb n m 0).Pairwise (fun a b => cmpL a b ≤ 0) := by decide +kernel
theorem list_set : ∀ s < 16, setN (listN s) = s := by decide +kernel
/-- The lists of so many hands that explain. -/
def hdue (r : Ros) (m : Nat) : List (List Int) := (hcomb r.hands.toNat m 0).filter fun l => decide (htruthsR r (entsL r) (setN l) ≠ [])
theorem found_due {r : Ros} (hr : r.Head) {m : Nat} (hm : m ≤ r.hands.toNat) : foundR r (entsL r) m = [] ↔ hdue r m = [] := by
  have hh := hr.hands
  obtain ⟨c1, c2⟩ := comb_set r.hands.toNat (by omega) m (by omega)
  have hp : (2 : Nat) ^ r.hands.toNat ≤ 2 ^ 4 := Nat.pow_le_pow_right (by omega) (by omega)
  constructor
  · intro h
    unfold hdue
    rw [List.filter_eq_nil_iff]
    intro x hx hd
    obtain ⟨g1, g2, _⟩ := c1 x hx
    obtain ⟨u, hu⟩ := List.exists_mem_of_ne_nil _ (of_decide_eq_true hd)
    have := (foundR_mem hr (m := m)).2 ⟨setN x, g1, by rw [← popF_eq _ (by omega)]; exact g2, hu⟩
    rw [h] at this; simp at this
  · intro h
    refine List.eq_nil_iff_forall_not_mem.2 fun u hu => ?_
    obtain ⟨s, g1, g2, g3⟩ := (foundR_mem hr).1 hu
    obtain ⟨k1, k2⟩ := c2 s g1 (by rw [popF_eq _ (by omega)]; exact g2)
    have : listN s ∈ hdue r m := List.mem_filter.2 ⟨k1, decide_eq_true (by rw [k2]; exact List.ne_nil_of_mem g3)⟩
    rw [h] at this; simp at this
theorem sets_due {r : Ros} (hr : r.Head) {m : Nat} (hm : m ≤ r.hands.toNat) (he : explR r (entsL r) = (foundR r (entsL r) m).foldl addX []) : setsL (explR r (entsL r)) = hdue r m := by
  have hh := hr.hands
  obtain ⟨c1, c2⟩ := comb_set r.hands.toNat (by omega) m (by omega)
  obtain ⟨o1, o2⟩ := comb_ord r.hands.toNat (by omega) m (by omega)
  have hp : (2 : Nat) ^ r.hands.toNat ≤ 2 ^ 4 := Nat.pow_le_pow_right (by omega) (by omega)
  have hdl : ∀ s, s ∈ driftsL (explR r (entsL r)) ↔ s < 2 ^ r.hands.toNat ∧ popN s = m ∧ htruthsR r (entsL r) s ≠ [] := fun s => by
    unfold driftsL
    rw [addX_mem, List.mem_map]
    constructor
    · rintro (h | ⟨u, hu, rfl⟩)
      · simp at h
      · obtain ⟨g1, g2, g3⟩ := found_pop hr ((explR_iff he).1 hu)
        exact ⟨g2, g1, List.ne_nil_of_mem g3⟩
    · rintro ⟨g1, g2, g3⟩
      obtain ⟨u, hu⟩ := List.exists_mem_of_ne_nil _ g3
      exact .inr ⟨u, (explR_iff he).2 ((foundR_mem hr).2 ⟨s, g1, g2, hu⟩), driftN_of hr g1 (List.mem_filter.1 hu).1⟩
  refine (isort_eq (le := leL) leL_trans leL_total (fun _ _ => leL_anti) (o2.filter _) ?_).symm
  refine (List.perm_ext_iff_of_nodup (o1.filter _) ?_).2 fun x => ?_
  · rw [List.Nodup, List.pairwise_map]
    refine (addX_nodup List.nodup_nil : (driftsL (explR r (entsL r))).Nodup).imp_of_mem fun {a b} ha hb hab e => hab ?_
    have h1 := (hdl a).1 ha
    have h2 := (hdl b).1 hb
    rw [← list_set a (by omega), ← list_set b (by omega), e]
  · rw [List.mem_map, List.mem_filter, decide_eq_true_eq]
    constructor
    · rintro ⟨hx, hd⟩
      obtain ⟨g1, g2, g3⟩ := c1 x hx
      exact ⟨setN x, (hdl _).2 ⟨g1, by rw [← popF_eq _ (by omega)]; exact g2, hd⟩, g3⟩
    · rintro ⟨s, hs, rfl⟩
      obtain ⟨g1, g2, g3⟩ := (hdl s).1 hs
      obtain ⟨k1, k2⟩ := c2 s g1 (by rw [popF_eq _ (by omega)]; exact g2)
      exact ⟨k1, by rw [k2]; exact g3⟩
theorem fewL_some {r : Ros} (hg : r.Good) (hro : rosE r = 0) {m : Nat} (hm : m ≤ r.hands.toNat) (h1 : hdue r m ≠ []) (h0 : ∀ j, j < m → hdue r j = []) : knownE r [] = 0 ∧ fewL r = hdue r m := by
  rcases explR_spec r (entsL r) with ⟨_, g⟩ | ⟨k, g1, g2, g3, g4⟩
  · exact absurd ((found_due hg.toHead hm).1 (g m hm)) h1
  · have hkm : k = m := by
      rcases Nat.lt_trichotomy k m with c | c | c
      · exact absurd ((found_due hg.toHead g1).2 (h0 k c)) g3
      · exact c
      · exact absurd ((found_due hg.toHead hm).1 (g4 m c)) h1
    subst hkm
    have hne : explR r (entsL r) ≠ [] := by rw [g2]; exact fun e => g3 (addX_nil.1 e)
    have hk : knownE r [] = 0 := by
      unfold knownE
      rw [if_neg (fun c => c hro), if_neg (fun c => c rfl), if_neg hne]
    exact ⟨hk, by unfold fewL; rw [if_pos hk]; exact sets_due hg.toHead hm g2⟩
end Go.Proofs
set_option linter.unusedSimpArgs false
set_option linter.unusedVariables false
namespace Go.Proofs
open Go Go.Mu

def vTy (t : Nat) : Bool := t == 28
def Tryz.tyW (t : Nat) : TI := if vTy t = true then (Tryz.ty t).v else Tryz.ty t
theorem Tryz.tyW_kd (t : Nat) : (Tryz.tyW t).kd = (Tryz.ty t).kd := by unfold Tryz.tyW; split <;> rfl
theorem Tryz.tyW_sz (t : Nat) : (Tryz.tyW t).sz = (Tryz.ty t).sz := by unfold Tryz.tyW; split <;> rfl
theorem Tryz.tyW_bytes (t : Nat) : (Tryz.tyW t).bytes = (Tryz.ty t).bytes := by unfold Tryz.tyW; split <;> rfl
theorem Tryz.tyW_zero (t : Nat) : (Tryz.tyW t).zero = (Tryz.ty t).zero := by unfold Tryz.tyW; split <;> rfl
theorem Tryz.tyW_eqn (t : Nat) : (Tryz.tyW t).eqn = (Tryz.ty t).eqn := by unfold Tryz.tyW; split <;> rfl
theorem Tryz.tyW_keyn (t : Nat) : (Tryz.tyW t).keyn = (Tryz.ty t).keyn := by unfold Tryz.tyW; split <;> rfl
theorem Tryz.tysOKW : TysOK Tryz.prog Tryz.tyW := fun t h => by
  rw [Tryz.tyW_kd] at h
  have h2 := Tryz.tysOK t h
  exact ⟨by rw [Tryz.tyW_sz, Tryz.tyW_bytes, Tryz.tyW_zero]; exact h2.info, by rw [Tryz.tyW_kd]; exact h2.kd⟩
theorem Tryz.tyW1 : Tryz.tyW 1 = { sz := 1, bytes := 8, kd := .func, zero := .nilfn, eqn := false } := rfl
theorem Tryz.tyW2 : Tryz.tyW 2 = { sz := 1, bytes := 8, kd := .int .i64, zero := .int .i64 0, eqn := false } := rfl
theorem Tryz.tyW3 : Tryz.tyW 3 = { sz := 1, bytes := 8, kd := .int .i64, zero := .int .i64 0, eqn := false } := rfl
theorem Tryz.tyW4 : Tryz.tyW 4 = { sz := 1, bytes := 1, kd := .bool, zero := .bool false, eqn := false } := rfl
theorem Tryz.tyW5 : Tryz.tyW 5 = { sz := 1, bytes := 1, kd := .int .u8, zero := .int .u8 0, eqn := false } := rfl
theorem Tryz.tyW6 : Tryz.tyW 6 = { sz := 1, bytes := 1, kd := .int .u8, zero := .int .u8 0, eqn := false } := rfl
theorem Tryz.tyW8 : Tryz.tyW 8 = { sz := 4, bytes := 24, kd := .strct [(0, 2), (1, 3), (2, 4), (3, 6)], zero := .agg [.int .i64 0, .int .i64 0, .bool false, .int .u8 0], eqn := false } := rfl
theorem Tryz.tyW9 : Tryz.tyW 9 = { sz := 1, bytes := 16, kd := .str, zero := .str ByteArray.empty, eqn := false } := rfl
theorem Tryz.tyW10 : Tryz.tyW 10 = { sz := 1, bytes := 16, kd := .str, zero := .str ByteArray.empty, eqn := false } := rfl
theorem Tryz.tyW11 : Tryz.tyW 11 = { sz := 1, bytes := 16, kd := .str, zero := .str ByteArray.empty, eqn := false } := rfl
theorem Tryz.tyW12 : Tryz.tyW 12 = { sz := 1, bytes := 8, kd := .int .u64, zero := .int .u64 0, eqn := false } := rfl
theorem Tryz.tyW14 : Tryz.tyW 14 = { sz := 2, bytes := 24, kd := .strct [(0, 9), (1, 12)], zero := .agg [.str ByteArray.empty, .int .u64 0], eqn := false } := rfl
theorem Tryz.tyW15 : Tryz.tyW 15 = { sz := 1, bytes := 8, kd := .ptr 281, zero := .nilptr, eqn := false } := rfl
theorem Tryz.tyW16 : Tryz.tyW 16 = { sz := 1, bytes := 8, kd := .ptr 284, zero := .nilptr, eqn := false } := rfl
theorem Tryz.tyW17 : Tryz.tyW 17 = { sz := 1, bytes := 8, kd := .ptr 292, zero := .nilptr, eqn := false } := rfl
theorem Tryz.tyW19 : Tryz.tyW 19 = { sz := 1, bytes := 8, kd := .strct [(0, 17)], zero := .agg [.nilptr], eqn := false } := rfl
theorem Tryz.tyW22 : Tryz.tyW 22 = { sz := 1, bytes := 24, kd := .slice 3, zero := .list .full 0 [], eqn := false } := rfl
theorem Tryz.tyW23 : Tryz.tyW 23 = { sz := 1, bytes := 8, kd := .ptr 116, zero := .nilptr, eqn := false } := rfl
theorem Tryz.tyW26 : Tryz.tyW 26 = { sz := 2, bytes := 16, kd := .strct [(0, 3), (1, 3)], zero := .agg [.int .i64 0, .int .i64 0], eqn := true } := rfl
theorem Tryz.tyW27 : Tryz.tyW 27 = { sz := 1, bytes := 24, kd := .slice 67, zero := .list .full 0 [], eqn := false } := rfl
theorem Tryz.tyW28 : Tryz.tyW 28 = { sz := 1, bytes := 24, kd := .slice 51, zero := .list .full 0 [], eqn := false, vc := true } := rfl
theorem Tryz.tyW30 : Tryz.tyW 30 = { sz := 6, bytes := 80, kd := .strct [(0, 3), (1, 3), (2, 26), (4, 27), (5, 28)], zero := .agg [.int .i64 0, .int .i64 0, .int .i64 0, .int .i64 0, .list .full 0 [], .list .full 0 []], eqn := false } := rfl
theorem Tryz.tyW32 : Tryz.tyW 32 = { sz := 2, bytes := 48, kd := .strct [(0, 22), (1, 22)], zero := .agg [.list .full 0 [], .list .full 0 []], eqn := false } := rfl
theorem Tryz.tyW36 : Tryz.tyW 36 = { sz := 1, bytes := 24, kd := .slice 22, zero := .list .full 0 [], eqn := false } := rfl
theorem Tryz.tyW37 : Tryz.tyW 37 = { sz := 1, bytes := 8, kd := .int .i64, zero := .int .i64 0, eqn := false } := rfl
theorem Tryz.tyW46 : Tryz.tyW 46 = { sz := 1, bytes := 24, kd := .slice 26, zero := .list .full 0 [], eqn := false } := rfl
theorem Tryz.tyW47 : Tryz.tyW 47 = { sz := 1, bytes := 24, kd := .slice 105, zero := .list .full 0 [], eqn := false } := rfl
theorem Tryz.tyW49 : Tryz.tyW 49 = { sz := 3, bytes := 56, kd := .strct [(0, 3), (1, 46), (2, 47)], zero := .agg [.int .i64 0, .list .full 0 [], .list .full 0 []], eqn := false } := rfl
theorem Tryz.tyW51 : Tryz.tyW 51 = { sz := 6, bytes := 80, kd := .strct [(0, 3), (1, 3), (2, 3), (3, 49)], zero := .agg [.int .i64 0, .int .i64 0, .int .i64 0, .int .i64 0, .list .full 0 [], .list .full 0 []], eqn := false } := rfl
theorem Tryz.tyW54 : Tryz.tyW 54 = { sz := 1, bytes := 24, kd := .slice 30, zero := .list .full 0 [], eqn := false } := rfl
theorem Tryz.tyW64 : Tryz.tyW 64 = { sz := 1, bytes := 8, kd := .func, zero := .nilfn, eqn := false } := rfl
theorem Tryz.tyW67 : Tryz.tyW 67 = { sz := 2, bytes := 16, kd := .strct [(0, 3), (1, 3)], zero := .agg [.int .i64 0, .int .i64 0], eqn := true } := rfl
theorem Tryz.tyW105 : Tryz.tyW 105 = { sz := 6, bytes := 48, kd := .strct [(0, 3), (1, 3), (2, 3), (3, 3), (4, 26)], zero := .agg [.int .i64 0, .int .i64 0, .int .i64 0, .int .i64 0, .int .i64 0, .int .i64 0], eqn := true } := rfl
theorem Tryz.tyW109 : Tryz.tyW 109 = { sz := 6, bytes := 48, kd := .strct [(0, 26), (2, 26), (4, 26)], zero := .agg [.int .i64 0, .int .i64 0, .int .i64 0, .int .i64 0, .int .i64 0, .int .i64 0], eqn := false } := rfl
theorem Tryz.tyW111 : Tryz.tyW 111 = { sz := 9, bytes := 72, kd := .strct [(0, 26), (2, 26), (4, 26), (6, 26), (8, 3)], zero := .agg [.int .i64 0, .int .i64 0, .int .i64 0, .int .i64 0, .int .i64 0, .int .i64 0, .int .i64 0, .int .i64 0, .int .i64 0], eqn := false } := rfl
theorem Tryz.tyW113 : Tryz.tyW 113 = { sz := 18, bytes := 160, kd := .strct [(0, 109), (6, 111), (15, 46), (16, 3), (17, 3)], zero := .agg [.int .i64 0, .int .i64 0, .int .i64 0, .int .i64 0, .int .i64 0, .int .i64 0, .int .i64 0, .int .i64 0, .int .i64 0, .int .i64 0, .int .i64 0, .int .i64 0, .int .i64 0, .int .i64 0, .int .i64 0, .list .full 0 [], .int .i64 0, .int .i64 0], eqn := false } := rfl
theorem Tryz.tyW114 : Tryz.tyW 114 = { sz := 1, bytes := 8, kd := .int .u64, zero := .int .u64 0, eqn := false } := rfl
theorem Tryz.tyW116 : Tryz.tyW 116 = { sz := 1, bytes := 8, kd := .strct [(0, 114)], zero := .agg [.int .u64 0], eqn := false } := rfl
theorem Tryz.tyW117 : Tryz.tyW 117 = { sz := 1, bytes := 8, kd := .int .u64, zero := .int .u64 0, eqn := false } := rfl
theorem Tryz.tyW119 : Tryz.tyW 119 = { sz := 7, bytes := 104, kd := .strct [(0, 30), (6, 36)], zero := .agg [.int .i64 0, .int .i64 0, .int .i64 0, .int .i64 0, .list .full 0 [], .list .full 0 [], .list .full 0 []], eqn := false } := rfl
theorem Tryz.tyW120 : Tryz.tyW 120 = { sz := 1, bytes := 8, kd := .map 127 4, zero := .nilmap, eqn := false } := rfl
theorem Tryz.tyW127 : Tryz.tyW 127 = { sz := 4, bytes := 32, kd := .arr 4 3, zero := .agg [.int .i64 0, .int .i64 0, .int .i64 0, .int .i64 0], eqn := true, keyn := true } := rfl
theorem Tryz.tyW144 : Tryz.tyW 144 = { sz := 1, bytes := 8, kd := .int .u64, zero := .int .u64 0, eqn := false } := rfl
theorem Tryz.tyW146 : Tryz.tyW 146 = { sz := 1, bytes := 24, kd := .slice 127, zero := .list .full 0 [], eqn := false } := rfl
theorem Tryz.tyW149 : Tryz.tyW 149 = { sz := 1, bytes := 8, kd := .ptr 51, zero := .nilptr, eqn := false } := rfl
theorem Tryz.tyW164 : Tryz.tyW 164 = { sz := 1, bytes := 24, kd := .slice 169, zero := .list .full 0 [], eqn := false } := rfl
theorem Tryz.tyW169 : Tryz.tyW 169 = { sz := 3, bytes := 24, kd := .arr 3 3, zero := .agg [.int .i64 0, .int .i64 0, .int .i64 0], eqn := false } := rfl
theorem Tryz.tyW170 : Tryz.tyW 170 = { sz := 1, bytes := 8, kd := .func, zero := .nilfn, eqn := false } := rfl
theorem Tryz.tyW179 : Tryz.tyW 179 = { sz := 1, bytes := 24, kd := .slice 37, zero := .list .full 0 [], eqn := false } := rfl
theorem Tryz.tyW181 : Tryz.tyW 181 = { sz := 1, bytes := 8, kd := .map 144 4, zero := .nilmap, eqn := false } := rfl
theorem Tryz.tyW184 : Tryz.tyW 184 = { sz := 1, bytes := 8, kd := .func, zero := .nilfn, eqn := false } := rfl
theorem Tryz.tyW189 : Tryz.tyW 189 = { sz := 1, bytes := 8, kd := .func, zero := .nilfn, eqn := false } := rfl
theorem Tryz.tyW190 : Tryz.tyW 190 = { sz := 1, bytes := 8, kd := .func, zero := .nilfn, eqn := false } := rfl
theorem Tryz.tyW192 : Tryz.tyW 192 = { sz := 1, bytes := 8, kd := .func, zero := .nilfn, eqn := false } := rfl
theorem Tryz.tyW195 : Tryz.tyW 195 = { sz := 1, bytes := 8, kd := .func, zero := .nilfn, eqn := false } := rfl
theorem Tryz.tyW197 : Tryz.tyW 197 = { sz := 1, bytes := 8, kd := .func, zero := .nilfn, eqn := false } := rfl
theorem Tryz.tyW198 : Tryz.tyW 198 = { sz := 1, bytes := 8, kd := .func, zero := .nilfn, eqn := false } := rfl
theorem Tryz.tyW202 : Tryz.tyW 202 = { sz := 1, bytes := 8, kd := .map 3 4, zero := .nilmap, eqn := false } := rfl
theorem Tryz.tyW203 : Tryz.tyW 203 = { sz := 1, bytes := 8, kd := .func, zero := .nilfn, eqn := false } := rfl
theorem Tryz.tyW205 : Tryz.tyW 205 = { sz := 21, bytes := 184, kd := .strct [(0, 113), (18, 26), (20, 203)], zero := .agg [.int .i64 0, .int .i64 0, .int .i64 0, .int .i64 0, .int .i64 0, .int .i64 0, .int .i64 0, .int .i64 0, .int .i64 0, .int .i64 0, .int .i64 0, .int .i64 0, .int .i64 0, .int .i64 0, .int .i64 0, .list .full 0 [], .int .i64 0, .int .i64 0, .int .i64 0, .int .i64 0, .nilfn], eqn := false } := rfl
theorem Tryz.tyW210 : Tryz.tyW 210 = { sz := 5, bytes := 40, kd := .strct [(0, 26), (2, 3), (3, 3), (4, 3)], zero := .agg [.int .i64 0, .int .i64 0, .int .i64 0, .int .i64 0, .int .i64 0], eqn := false, keyn := true } := rfl
theorem Tryz.tyW213 : Tryz.tyW 213 = { sz := 1, bytes := 16, kd := .iface, zero := .niliface, eqn := false } := rfl
theorem Tryz.tyW215 : Tryz.tyW 215 = { sz := 1, bytes := 8, kd := .map 3 164, zero := .nilmap, eqn := false } := rfl
theorem Tryz.tyW225 : Tryz.tyW 225 = { sz := 1, bytes := 8, kd := .int .i64, zero := .int .i64 0, eqn := false } := rfl
theorem Tryz.tyW232 : Tryz.tyW 232 = { sz := 1, bytes := 4, kd := .int .u32, zero := .int .u32 0, eqn := false } := rfl
theorem Tryz.tyW234 : Tryz.tyW 234 = { sz := 1, bytes := 8, kd := .chan, zero := .chan none, eqn := false } := rfl
theorem Tryz.tyW236 : Tryz.tyW 236 = { sz := 3, bytes := 40, kd := .strct [(0, 3), (1, 22), (2, 37)], zero := .agg [.int .i64 0, .list .full 0 [], .int .i64 0], eqn := false } := rfl
theorem Tryz.tyW239 : Tryz.tyW 239 = { sz := 1, bytes := 8, kd := .func, zero := .nilfn, eqn := false } := rfl
theorem Tryz.tyW242 : Tryz.tyW 242 = { sz := 1, bytes := 24, kd := .slice 213, zero := .list .full 0 [], eqn := false } := rfl
theorem Tryz.tyW243 : Tryz.tyW 243 = { sz := 1, bytes := 8, kd := .func, zero := .nilfn, eqn := false } := rfl
theorem Tryz.tyW244 : Tryz.tyW 244 = { sz := 1, bytes := 8, kd := .func, zero := .nilfn, eqn := false } := rfl
theorem Tryz.tyW245 : Tryz.tyW 245 = { sz := 1, bytes := 8, kd := .map 210 4, zero := .nilmap, eqn := false } := rfl
theorem Tryz.tyW247 : Tryz.tyW 247 = { sz := 1, bytes := 8, kd := .func, zero := .nilfn, eqn := false } := rfl
theorem Tryz.tyW252 : Tryz.tyW 252 = { sz := 7, bytes := 56, kd := .strct [(0, 105), (6, 3)], zero := .agg [.int .i64 0, .int .i64 0, .int .i64 0, .int .i64 0, .int .i64 0, .int .i64 0, .int .i64 0], eqn := false } := rfl
theorem Tryz.tyW254 : Tryz.tyW 254 = { sz := 6, bytes := 48, kd := .strct [(0, 105)], zero := .agg [.int .i64 0, .int .i64 0, .int .i64 0, .int .i64 0, .int .i64 0, .int .i64 0], eqn := false } := rfl
theorem Tryz.tyW255 : Tryz.tyW 255 = { sz := 6, bytes := 48, kd := .strct [(0, 105)], zero := .agg [.int .i64 0, .int .i64 0, .int .i64 0, .int .i64 0, .int .i64 0, .int .i64 0], eqn := false } := rfl
theorem Tryz.tyW262 : Tryz.tyW 262 = { sz := 1, bytes := 8, kd := .int .u64, zero := .int .u64 0, eqn := false } := rfl
theorem Tryz.tyW265 : Tryz.tyW 265 = { sz := 1, bytes := 8, kd := .ptr 3, zero := .nilptr, eqn := false } := rfl
theorem Tryz.tyW268 : Tryz.tyW 268 = { sz := 1, bytes := 8, kd := .func, zero := .nilfn, eqn := false } := rfl
theorem Tryz.tyW270 : Tryz.tyW 270 = { sz := 15, bytes := 120, kd := .strct [(0, 109), (6, 111)], zero := .agg [.int .i64 0, .int .i64 0, .int .i64 0, .int .i64 0, .int .i64 0, .int .i64 0, .int .i64 0, .int .i64 0, .int .i64 0, .int .i64 0, .int .i64 0, .int .i64 0, .int .i64 0, .int .i64 0, .int .i64 0], eqn := false } := rfl
theorem Tryz.tyW275 : Tryz.tyW 275 = { sz := 1, bytes := 8, kd := .ptr 262, zero := .nilptr, eqn := false } := rfl
theorem Tryz.tyW281 : Tryz.tyW 281 = { sz := 4, bytes := 40, kd := .strct [(0, 17), (1, 17), (2, 17), (3, 9)], zero := .agg [.nilptr, .nilptr, .nilptr, .str ByteArray.empty], eqn := false } := rfl
theorem Tryz.tyW282 : Tryz.tyW 282 = { sz := 0, bytes := 0, kd := .arr 0 16, zero := .agg [], eqn := false } := rfl
theorem Tryz.tyW284 : Tryz.tyW 284 = { sz := 0, bytes := 0, kd := .strct [(0, 282)], zero := .agg [], eqn := false } := rfl
theorem Tryz.tyW285 : Tryz.tyW 285 = { sz := 1, bytes := 1, kd := .int .u8, zero := .int .u8 0, eqn := false } := rfl
theorem Tryz.tyW286 : Tryz.tyW 286 = { sz := 1, bytes := 1, kd := .int .u8, zero := .int .u8 0, eqn := false } := rfl
theorem Tryz.tyW287 : Tryz.tyW 287 = { sz := 1, bytes := 8, kd := .func, zero := .nilfn, eqn := false } := rfl
theorem Tryz.tyW288 : Tryz.tyW 288 = { sz := 1, bytes := 8, kd := .ptr 5, zero := .nilptr, eqn := false } := rfl
theorem Tryz.tyW289 : Tryz.tyW 289 = { sz := 1, bytes := 4, kd := .int .i32, zero := .int .i32 0, eqn := false } := rfl
theorem Tryz.tyW290 : Tryz.tyW 290 = { sz := 1, bytes := 4, kd := .int .i32, zero := .int .i32 0, eqn := false } := rfl
theorem Tryz.tyW292 : Tryz.tyW 292 = { sz := 11, bytes := 48, kd := .strct [(0, 12), (1, 12), (2, 232), (3, 285), (4, 5), (5, 5), (6, 286), (7, 287), (8, 288), (9, 289), (10, 290)], zero := .agg [.int .u64 0, .int .u64 0, .int .u32 0, .int .u8 0, .int .u8 0, .int .u8 0, .int .u8 0, .nilfn, .nilptr, .int .i32 0, .int .i32 0], eqn := false } := rfl
theorem Tryz.eqsOKW : EqsOK Tryz.prog Tryz.tyW := ⟨fun t h => Tryz.eqsOK.guard t (by rw [Tryz.tyW_eqn] at h; exact h), fun t h xs ys w h1 h2 => by
  rw [Tryz.tyW_eqn] at h; rw [Tryz.tyW_sz] at h1 h2; exact Tryz.eqsOK.eq t h xs ys w h1 h2, fun t h => by
  rw [Tryz.tyW_keyn] at h; rw [Tryz.tyW_kd]; exact Tryz.eqsOK.kkd t h, fun t h xs ys w h1 h2 => by
  rw [Tryz.tyW_keyn] at h; rw [Tryz.tyW_sz] at h1 h2; exact Tryz.eqsOK.keq t h xs ys w h1 h2, fun t h e xs w h1 => by
  rw [Tryz.tyW_keyn] at h; rw [Tryz.tyW_sz] at h1; exact Tryz.eqsOK.kck t h e xs w h1⟩
noncomputable def Tryz.Ew {S : MC Tryz.prog} (N : Nat) (ord : Nat → List Nat × List (Nat × List Nat)) (fs : FuncId → List AV → Option AV) : Env := { P := Tryz.prog, S := S, ty := Tryz.tyW, N := N, mt := Tryz.mt, ord := ord, fs := fs }
theorem Tryz.EwN {S : MC Tryz.prog} {N : Nat} {ord : Nat → List Nat × List (Nat × List Nat)} {fs : FuncId → List AV → Option AV} : (Tryz.Ew (S := S) N ord fs).N = N := rfl
theorem Tryz.Ewmt {S : MC Tryz.prog} {N : Nat} {ord : Nat → List Nat × List (Nat × List Nat)} {fs : FuncId → List AV → Option AV} : (Tryz.Ew (S := S) N ord fs).mt = Tryz.mt := rfl
theorem Tryz.EwP {S : MC Tryz.prog} {N : Nat} {ord : Nat → List Nat × List (Nat × List Nat)} {fs : FuncId → List AV → Option AV} : (Tryz.Ew (S := S) N ord fs).P = Tryz.prog := rfl
theorem Tryz.Ewty {S : MC Tryz.prog} {N : Nat} {ord : Nat → List Nat × List (Nat × List Nat)} {fs : FuncId → List AV → Option AV} : (Tryz.Ew (S := S) N ord fs).ty = Tryz.tyW := rfl
theorem Tryz.Eword {S : MC Tryz.prog} {N : Nat} {ord : Nat → List Nat × List (Nat × List Nat)} {fs : FuncId → List AV → Option AV} : (Tryz.Ew (S := S) N ord fs).ord = ord := rfl
theorem Tryz.Ewfs {S : MC Tryz.prog} {N : Nat} {ord : Nat → List Nat × List (Nat × List Nat)} {fs : FuncId → List AV → Option AV} : (Tryz.Ew (S := S) N ord fs).fs = fs := rfl
set_option maxRecDepth 200000 in
theorem Tryz.envOKW {S : MC Tryz.prog} (N : Nat) (ord : Nat → List Nat × List (Nat × List Nat)) (fs : FuncId → List AV → Option AV) (h : ∀ f xs v, fs f xs = some v → PureV S f xs v) : EnvOK (Tryz.Ew (S := S) N ord fs) := ⟨Tryz.tysOKW, Tryz.eqsOKW, Tryz.mtOK, Tryz.mtOKT, by kernel_rfl, h⟩
attribute [go_sem] Tryz.tyW1 Tryz.tyW2 Tryz.tyW3 Tryz.tyW4 Tryz.tyW5 Tryz.tyW6 Tryz.tyW8 Tryz.tyW9 Tryz.tyW10 Tryz.tyW11 Tryz.tyW12 Tryz.tyW14
attribute [go_sem] Tryz.tyW15 Tryz.tyW16 Tryz.tyW17 Tryz.tyW19 Tryz.tyW22 Tryz.tyW23 Tryz.tyW26 Tryz.tyW27 Tryz.tyW28 Tryz.tyW30 Tryz.tyW32 Tryz.tyW36
attribute [go_sem] Tryz.tyW37 Tryz.tyW46 Tryz.tyW47 Tryz.tyW49 Tryz.tyW51 Tryz.tyW54 Tryz.tyW64 Tryz.tyW67 Tryz.tyW105 Tryz.tyW109 Tryz.tyW111 Tryz.tyW113
attribute [go_sem] Tryz.tyW114 Tryz.tyW116 Tryz.tyW117 Tryz.tyW119 Tryz.tyW120 Tryz.tyW127 Tryz.tyW144 Tryz.tyW146 Tryz.tyW149 Tryz.tyW164 Tryz.tyW169 Tryz.tyW170
attribute [go_sem] Tryz.tyW179 Tryz.tyW181 Tryz.tyW184 Tryz.tyW189 Tryz.tyW190 Tryz.tyW192 Tryz.tyW195 Tryz.tyW197 Tryz.tyW198 Tryz.tyW202 Tryz.tyW203 Tryz.tyW205
attribute [go_sem] Tryz.tyW210 Tryz.tyW213 Tryz.tyW215 Tryz.tyW225 Tryz.tyW232 Tryz.tyW234 Tryz.tyW236 Tryz.tyW239 Tryz.tyW242 Tryz.tyW243 Tryz.tyW244 Tryz.tyW245
attribute [go_sem] Tryz.tyW247 Tryz.tyW252 Tryz.tyW254 Tryz.tyW255 Tryz.tyW262 Tryz.tyW265 Tryz.tyW268 Tryz.tyW270 Tryz.tyW275 Tryz.tyW281 Tryz.tyW282 Tryz.tyW284
attribute [go_sem] Tryz.tyW285 Tryz.tyW286 Tryz.tyW287 Tryz.tyW288 Tryz.tyW289 Tryz.tyW290 Tryz.tyW292 Tryz.EwN Tryz.Ewmt Tryz.EwP Tryz.Ewty Tryz.Eword
attribute [go_sem] Tryz.Ewfs
theorem Tryz.EwS_ {S : MC Tryz.prog} {N : Nat} {ord : Nat → List Nat × List (Nat × List Nat)} {fs : FuncId → List AV → Option AV} : (Tryz.Ew (S := S) N ord fs).S = S := rfl
attribute [go_sem] Tryz.EwS_
end Go.Proofs
