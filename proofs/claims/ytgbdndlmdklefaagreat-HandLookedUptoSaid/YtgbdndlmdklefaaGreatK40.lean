/- Texts of a proof: lemmas. -/
import Derived.Test.YtgbdndlmdklefaaGreatK33
import Derived.Test.YtgbdndlmdklefaaGreatK38
import Derived.Test.YtgbdndlmdklefaaGreatK39
import Derived.Test.YtgbdndlmdklefaaGreatK32
set_option linter.unusedSimpArgs false
set_option linter.unusedVariables false
set_option maxRecDepth 100000
namespace Go.Proofs
open Go Go.Mu Go.Ins

theorem hfirstE_of {α : Type} {f : α → Int} : ∀ {l : List α}, (∀ x ∈ l, f x = 0) → firstE f l = 0
  | [], _ => rfl
  | x :: l, h => by
    show (if f x = 0 then firstE f l else f x) = 0
    rw [if_pos (h x (by simp))]
    exact hfirstE_of fun y hy => h y (by simp [hy])
theorem truthsL_one (sl lo hi : Int) (rds : List Rd) : truthsL ⟨sl, [⟨lo, hi⟩], rds⟩ = (List.range (hi - lo + 1).toNat).flatMap fun (k : Nat) => allT ⟨sl, [⟨lo, hi⟩], rds⟩ 0 (setI [0, 0, 0] ((0 : Nat) : Int) (lo + k)) 1 := rfl
theorem trueT_chk {r : Ros} {rates : List Int} {w : Int} {x : Tn} {b : Int} (h : TrueT r rates w x b) (hw : 0 ≤ w ∧ w ≤ 10) (hs : 0 ≤ r.skill ∧ r.skill ≤ 3) :
    (chkE x r.hands).2 = 0 ∧ ∃ d ∈ (chkE x r.hands).1, -r.skill ≤ d - offX r rates b x.day ∧ d - offX r rates b x.day ≤ r.skill := by
  obtain ⟨t, lo, hi, rds, ⟨e1, e2⟩, g2, g3, g4⟩ := h.ear
  have hb := h.by_in
  have hd := h.day
  have hh := h.hand
  have hdu := h.due
  obtain ⟨day, hand, due, ear⟩ := x
  simp only at g4 hd hh hdu e1 e2 ⊢
  subst g4
  have hck : ck ⟨0, [⟨lo, hi⟩], rds⟩ = 0 := by
    unfold ck
    have hT : firstE ckT [(⟨lo, hi⟩ : Rng)] = 0 := by
      refine hfirstE_of (fun y hy => ?_)
      simp at hy; subst hy
      unfold ckT
      dsimp only
      repeat' split
      all_goals omega
    have hR : firstE (fun r => ckR r (1 : Nat)) rds = 0 := by
      refine hfirstE_of (fun y hy => ?_)
      rcases g3 with rfl | rfl
      · simp at hy
      · simp at hy; subst hy
        unfold ckR
        simp only
        repeat' split
        all_goals omega
    have hl : rds.length ≤ 1 := by rcases g3 with rfl | rfl <;> simp
    simp only [List.length_cons, List.length_nil, Nat.zero_add]
    rw [if_neg (by omega), if_neg (by omega), if_neg (by omega), if_neg (fun c => c hT), if_neg (by omega)]
    exact hR
  have htm : [t, 0, 0] ∈ truthsL ⟨0, [⟨lo, hi⟩], rds⟩ := by
    rw [truthsL_one, List.mem_flatMap]
    refine ⟨(t - lo).toNat, List.mem_range.2 (by omega), ?_⟩
    have hts : setI [0, 0, 0] ((0 : Nat) : Int) (lo + ((t - lo).toNat : Int)) = [t, 0, 0] := by
      rw [show lo + ((t - lo).toNat : Int) = t by omega]; rfl
    have hal : (rds.all fun r => isR r 0 [t, 0, 0]) = true := by
      rcases g3 with rfl | rfl
      · rfl
      · simp only [List.all_cons, List.all_nil, Bool.and_true, isR, if_true, tg]
        exact decide_eq_true (by
          have : ([t, 0, 0] : List Int).getD (Int.toNat 0) 0 = t := rfl
          rw [this]; omega)
    rw [hts]
    show [t, 0, 0] ∈ if (rds.all fun r => isR r 0 [t, 0, 0]) = true then [[t, 0, 0]] else []
    rw [if_pos hal]; simp
  have hn : truthsL ⟨0, [⟨lo, hi⟩], rds⟩ ≠ [] := List.ne_nil_of_mem htm
  rw [chkE_one (by simp only; omega) (by simp only; omega) (by simp only; omega) hck rfl hn]
  refine ⟨rfl, t - due, List.mem_map.2 ⟨t, ?_, rfl⟩, by omega, by omega⟩
  have : t ∈ firstsL ((truthsL ⟨0, [⟨lo, hi⟩], rds⟩).map fun t => tg t 0) := (addN_mem _ [] _).2 (.inr (List.mem_map.2 ⟨[t, 0, 0], htm, rfl⟩))
  exact this
theorem TrueR.head {H E w : Int} {r : Ros} {rates by_ : List Int} (h : TrueR H E w r rates by_) (hH : H ≤ 4) (hE : E ≤ 5) : headE r = 0 := by
  have h1 := h.hands
  have h2 := h.skill
  have h3 := h.mn
  have h4 := h.mx
  have h5 := h.sl
  have h6 := h.el
  have hs : firstE (setE r.hands) r.sets = 0 := hfirstE_of fun s hs => by
    have := h.set s hs
    unfold setE
    rw [if_neg (by omega), if_neg (by omega)]
  unfold headE
  rw [if_neg (by omega), if_neg (by omega), if_neg (by omega), if_neg (fun c => c hs), if_neg (by omega)]
theorem TrueR.by_at {H E w : Int} {r : Ros} {rates by_ : List Int} (h : TrueR H E w r rates by_) {x : Tn} (hx : x ∈ r.ents) : ∃ b, TrueT r rates w x b := by
  obtain ⟨i, hi, rfl⟩ := List.mem_iff_getElem.1 hx
  exact ⟨_, h.ent i hi (by rw [h.bl]; exact hi)⟩
theorem TrueR.entE {H E w : Int} {r : Ros} {rates by_ : List Int} (h : TrueR H E w r rates by_) (hw : 0 ≤ w ∧ w ≤ 10) : entsE r = 0 := by
  unfold entsE
  refine firstNZ_zero fun e he => ?_
  obtain ⟨x, hx, rfl⟩ := List.mem_map.1 he
  obtain ⟨b, hb⟩ := h.by_at hx
  exact (trueT_chk hb hw h.skill).1
theorem TrueR.ro {H E w : Int} {r : Ros} {rates by_ : List Int} (h : TrueR H E w r rates by_) (hH : H ≤ 4) (hE : E ≤ 5) (hw : 0 ≤ w ∧ w ≤ 10) : rosE r = 0 := by
  unfold rosE; rw [if_neg (fun c => c (h.head hH hE))]; exact h.entE hw
/-- Who has these rates is among all. -/
theorem allR_mem {r : Ros} (s : Nat) : ∀ (m : Nat) (x : List Int) (a : Nat) (u : List Int), x.length = 4 → u.length = 4 → a + m ≤ 4 → (∀ i : Nat, i < a → tg u i = tg x i) → (∀ i : Nat, a ≤ i → i < a + m → if s.testBit i then r.mn ≤ tg u i ∧ tg u i ≤ r.mx ∧ tg u i ≠ 0 else tg u i = tg x i) → (∀ i : Nat, a + m ≤ i → tg u i = tg x i) → u ∈ allR r s m x a
  | 0, x, a, u, hx, hu, _, h1, _, h3 => by
    have : u = x := by
      apply List.ext_getElem (by omega)
      intro i g1 g2
      have e := (Nat.lt_or_ge i a).elim (h1 i) (fun g => h3 i (by omega))
      unfold tg at e
      rw [Int.toNat_natCast, List.getD_eq_getElem?_getD, List.getD_eq_getElem?_getD, List.getElem?_eq_getElem g1, List.getElem?_eq_getElem g2] at e
      simpa using e
    rw [this]; simp [allR]
  | m + 1, x, a, u, hx, hu, ha, h1, h2, h3 => by
    have htg : ∀ (n : Int) (i : Nat), tg (setI x a n) i = if i = a then n else tg x i := fun n i => by
      unfold tg setI
      simp only [Int.toNat_natCast, List.getD_eq_getElem?_getD, List.getElem?_set]
      by_cases e : a = i
      · subst e; simp [show a < x.length by omega]
      · rw [if_neg e, if_neg (fun h => e h.symm)]
    have ha2 := h2 a (Nat.le_refl _) (by omega)
    simp only [allR]
    by_cases hs : s.testBit a = true
    · rw [if_pos hs] at ha2
      rw [if_pos hs, List.mem_flatMap]
      refine ⟨(tg u a - r.mn).toNat, List.mem_range.2 (by omega), ?_⟩
      have e : r.mn + ((tg u a - r.mn).toNat : Int) = tg u a := by omega
      rw [e, if_neg ha2.2.2]
      refine allR_mem s m (setI x a (tg u a)) (a + 1) u (by simp [setI, hx]) hu (by omega) (fun i hi => ?_) (fun i g1 g2 => ?_) (fun i hi => ?_)
      · rw [htg]
        by_cases c : i = a
        · rw [if_pos c, c]
        · rw [if_neg c]; exact h1 i (Nat.lt_of_le_of_ne (Nat.le_of_lt_succ hi) c)
      · rw [htg, if_neg (show ¬ i = a by omega)]; exact h2 i (by omega) (by omega)
      · rw [htg, if_neg (show ¬ i = a by omega)]; exact h3 i (by omega)
    · rw [if_neg hs] at ha2
      rw [if_neg hs]
      refine allR_mem s m x (a + 1) u hx hu (by omega) (fun i hi => ?_) (fun i g1 g2 => h2 i (by omega) (by omega)) (fun i hi => h3 i (by omega))
      by_cases c : i = a
      · rw [c]; exact ha2
      · exact h1 i (by omega)
def padR (rates : List Int) : List Int := rates ++ List.replicate (4 - rates.length) 0
theorem padR_tg (rates : List Int) (i : Int) : tg (padR rates) i = tg rates i := by
  unfold tg padR
  simp only [List.getD, List.getElem?_append, List.getElem?_replicate]
  split
  · rfl
  · rename_i h
    rw [List.getElem?_eq_none (by omega)]
    split <;> rfl
/-- What truly was so is a truth; something explains the roster. -/
theorem TrueR.truth {H E w : Int} {r : Ros} {rates by_ : List Int} (h : TrueR H E w r rates by_) (hH : H ≤ 4) (hE : E ≤ 5) (hw : 0 ≤ w ∧ w ≤ 10) : padR rates ∈ htruthsR r (entsL r) (driftN (padR rates)) ∧ driftN (padR rates) < 2 ^ r.hands.toNat := by
  have h1 := h.hands
  have hrl := h.rl
  have hpl : (padR rates).length = 4 := by unfold padR; rw [List.length_append, List.length_replicate]; omega
  have hbig : ∀ i : Nat, rates.length ≤ i → tg (padR rates) i = 0 := fun i hi => by
    rw [padR_tg]; unfold tg; rw [Int.toNat_natCast, List.getD_eq_getElem?_getD, List.getElem?_eq_none hi]; rfl
  have hbit : ∀ i, (driftN (padR rates)).testBit i = (decide (i < 4) && decide (tg (padR rates) i ≠ 0)) := fun i => by unfold driftN; rw [bitsOf_test]
  constructor
  · unfold htruthsR
    rw [List.mem_filter]
    constructor
    · refine allR_mem _ _ _ _ _ rfl hpl (by omega) (fun i hi => by omega) (fun i g1 g2 => ?_) (fun i hi => ?_)
      · have h0 : tg ([0, 0, 0, 0] : List Int) i = 0 := by
          match i with
          | 0 => rfl
          | 1 => rfl
          | 2 => rfl
          | 3 => rfl
          | i + 4 => unfold tg; rw [Int.toNat_natCast]; rfl
        rw [h0, hbit, decide_eq_true (show i < 4 by omega), Bool.true_and]
        by_cases hz : tg (padR rates) i = 0
        · rw [decide_eq_false (fun c => c hz), if_neg (by simp)]; exact hz
        · rw [decide_eq_true hz, if_pos rfl]
          have hlt : i < rates.length := by omega
          have e : tg (padR rates) i = rates[i] := by rw [padR_tg]; unfold tg; rw [Int.toNat_natCast, List.getD_eq_getElem?_getD, List.getElem?_eq_getElem hlt]; rfl
          have := h.rate _ (List.getElem_mem hlt)
          rw [← e] at this
          rcases this with g | g
          · exact absurd g hz
          · exact ⟨g.1, g.2, hz⟩
      · rw [hbig i (by omega)]
        match i with
        | 0 => rfl
        | 1 => rfl
        | 2 => rfl
        | 3 => rfl
        | i + 4 => unfold tg; rw [Int.toNat_natCast]; rfl
    · unfold isB
      rw [List.all_eq_true]
      intro i hi
      have hi' := List.mem_range.1 hi
      have hT := h.ent i hi' (by rw [h.bl]; exact hi')
      have hb := hT.by_in
      rw [List.any_eq_true]
      refine ⟨(by_[i]'(by rw [h.bl]; exact hi')).toNat, List.mem_range.2 (by omega), ?_⟩
      rw [Int.toNat_of_nonneg hb.1]
      obtain ⟨_, d, hd, e1, e2⟩ := trueT_chk hT hw h.skill
      unfold byB
      have hgd : r.ents.getD i default = r.ents[i] := by simp [List.getD, List.getElem?_eq_getElem hi']
      have hgs : (entsL r).getD i [] = (chkE r.ents[i] r.hands).1 := by
        unfold entsL; simp [List.getD, List.getElem?_eq_getElem hi']
      rw [hgd, hgs, if_neg (by rcases hT.hand with g | g <;> omega), List.any_eq_true]
      have ho : offX r (padR rates) (by_[i]'(by rw [h.bl]; exact hi')) r.ents[i].day = offX r rates (by_[i]'(by rw [h.bl]; exact hi')) r.ents[i].day := by unfold offX; rw [padR_tg]
      exact ⟨d, hd, decide_eq_true (by rw [ho]; exact ⟨e1, e2⟩)⟩
  · refine Nat.lt_pow_two_of_testBit _ fun i hi => ?_
    rw [hbit]
    by_cases hz : tg (padR rates) i = 0
    · rw [decide_eq_false (p := tg (padR rates) i ≠ 0) (fun c => c hz), Bool.and_false]
    · exact absurd (hbig i (by omega)) hz
theorem TrueR.expl {H E w : Int} {r : Ros} {rates by_ : List Int} (h : TrueR H E w r rates by_) (hH : H ≤ 4) (hE : E ≤ 5) (hw : 0 ≤ w ∧ w ≤ 10) : explR r (entsL r) ≠ [] := by
  obtain ⟨t1, t2⟩ := h.truth hH hE hw
  have hhd := Ros.head_of (h.head hH hE)
  intro e
  rcases explR_spec r (entsL r) with ⟨_, g⟩ | ⟨m, _, g1, g2, _⟩
  · have hle : popN (driftN (padR rates)) ≤ r.hands.toNat := by
      have h4 := hhd.hands
      have hp : ∀ n s, s < 2 ^ n → popN s ≤ n := by
        intro n
        induction n with
        | zero => intro s hs; have : s = 0 := by simpa using hs
                  subst this; rw [popN_zero]; omega
        | succ n ih =>
          intro s hs
          rw [popN_step]
          have := ih (s / 2) (by rw [Nat.pow_succ] at hs; omega)
          omega
      exact hp _ _ t2
    have := g _ hle
    have hm := (foundR_mem hhd (m := popN (driftN (padR rates)))).2 ⟨_, t2, rfl, t1⟩
    rw [this] at hm; simp at hm
  · rw [g1] at e; exact g2 (addX_nil.1 e)
theorem TrueR.known {H E w : Int} {r : Ros} {rates by_ : List Int} (h : TrueR H E w r rates by_) (hH : H ≤ 4) (hE : E ≤ 5) (hw : 0 ≤ w ∧ w ≤ 10) {ws : List Int} (hz : firstNZ ws = 0) : knownE r ws = 0 := by
  unfold knownE
  rw [if_neg (fun c => c (h.ro hH hE hw)), if_neg (fun c => c hz), if_neg (h.expl hH hE hw)]
end Go.Proofs
set_option linter.unusedSimpArgs false
set_option linter.unusedVariables false
set_option maxRecDepth 100000
namespace Go.Proofs
open Go Go.Mu
variable {S : MC Tryz.prog}

/-- One round of a loop. -/
theorem ARun.once {E : Env} (hE : EnvOK E) {ro : Option Nat} {c : Code} {k : List Item} {kp : Nat → Bool} {tm sl : List (Nat × AV)} {σ : List AObj} {Q : Post}
    (hO : todoOK E (.code c :: .inLoop c :: k) = true) (h : ev E ro 100000 (.code c :: .inLoop c :: k) ⟨kp, [], sl⟩ σ Q) : ARun E ro (.code (.loop c) :: k) ⟨kp, tm, sl⟩ σ Q :=
  ARun.anew (fr := ⟨kp, tm, sl⟩) (.loop (ev_sound hE hO h))
theorem same_step {α : Type} [DecidableEq α] {a b : List α} {i : Nat} (hl : a.length = b.length) (h : i < a.length) (ht : a.take i = b.take i) : (a.take (i + 1) = b.take (i + 1)) ↔ a[i] = b[i]'(by omega) := by
  have ta := List.take_succ_eq_append_getElem h
  have tb := List.take_succ_eq_append_getElem (l := b) (i := i) (by omega)
  rw [ta, tb, ht]
  simp only [List.append_cancel_left_eq, List.cons.injEq, and_true]
theorem sameInts_p (a b : List Int) (hl : a.length ≤ 4294967296) (hl2 : b.length ≤ 4294967296) : PureV S 51 [.list .no 1 (a.map (.int .i64)), .list .no 1 (b.map (.int .i64))] (.bool (decide (a = b))) := by
  refine PureV.of_ev (E := Tryz.E (S := S) 31 Tryz.ord51 fs0) (Tryz.envOK (S := S) 31 Tryz.ord51 fs0 fs0_ok) (.bool) Tryz.kp51 Tryz.func51 rfl (by kernel_rfl) (by simp [Tryz.E]) (Callable.of Tryz.func51 (by kernel_rfl) (by kernel_rfl)) (by kernel_rfl) ?_
  intro σ
  by_cases hlen : a.length = b.length
  · have hz : ((a.length : Int) = b.length) := by omega
    simp -implicitDefEqProofs (maxSteps := 2000000) (disch := omega) only [go_sem, simprocAttr]
    refine ARun.loopJ (Tryz.envOK (S := S) 31 Tryz.ord51 fs0 fs0_ok) (α := Nat × Bool) (fun p => a.length - p.1) (fun p τ => τ = σ ∧ p.1 ≤ a.length ∧ p.2 = decide (a.take p.1 = b.take p.1)) (fun p => [(5, .bool p.2), (6, .int .i64 p.1)]) (0, true) (by kernel_rfl) (by simp [upd, ins, subF, lookA]) ⟨rfl, Nat.zero_le _, by simp⟩ ?_
    rintro ⟨i, c⟩ τ ⟨rfl, hi, hc⟩ ih
    simp only at hi hc ih
    cases c
    · simp -implicitDefEqProofs (maxSteps := 2000000) (disch := omega) only [go_sem, simprocAttr]
      have : ¬ a = b := fun e => by subst e; simp at hc
      simp [this]
    · have htk : a.take i = b.take i := by simpa using hc
      by_cases hlt : i < a.length
      · have hst := same_step hlen hlt htk
        have hia : idx (a.map (AV.int .i64)) (i : Int) = some (.int .i64 a[i]) := idx_nat hlt
        have hib : idx (b.map (AV.int .i64)) (i : Int) = some (.int .i64 (b[i]'(by omega))) := idx_nat (by omega)
        generalize a[i] = x at hst hia
        generalize b[i]'(by omega) = y at hst hib
        clear hc htk
        simp -implicitDefEqProofs (maxSteps := 2000000) (disch := omega) only [go_sem, simprocAttr, hia, hib]
        refine ⟨fun h => (ih (i + 1, true) _ (by simp only; omega) ⟨rfl, by simp only; omega, ?_⟩).castS rfl (by simp [upd, ins, subF, lookA]), fun h => (ih (i + 1, false) _ (by simp only; omega) ⟨rfl, by simp only; omega, ?_⟩).castS rfl (by simp [upd, ins, subF, lookA])⟩
        · simp [hst, h]
        · simp [hst, h]
      · have : i = a.length := by omega
        subst this
        simp -implicitDefEqProofs (maxSteps := 2000000) (disch := omega) only [go_sem, simprocAttr]
        have : a = b := by rwa [List.take_length, hlen, List.take_length] at htk
        simp [this]
  · have hz : ¬ ((a.length : Int) = b.length) := by omega
    have : ¬ a = b := fun e => hlen (by rw [e])
    simp -implicitDefEqProofs (maxSteps := 2000000) (disch := omega) only [go_sem, simprocAttr]
    refine ARun.once (Tryz.envOK (S := S) 31 Tryz.ord51 fs0 fs0_ok) (by kernel_rfl) ?_
    simp -implicitDefEqProofs (maxSteps := 2000000) (disch := omega) only [go_sem, simprocAttr]
    simp [this]
def sameInts_s := spec2 tIs tIs fun a b => if a.length ≤ 4294967296 ∧ b.length ≤ 4294967296 then some (.bool (decide (a = b))) else none
theorem sameInts_ok : ∀ xs v, sameInts_s xs = some v → PureV S 51 xs v :=
  spec2_ok fun a b v h => by have h := someIf h; rw [← h.2]; exact sameInts_p a b h.1.1 h.1.2
end Go.Proofs
set_option linter.unusedSimpArgs false
set_option linter.unusedVariables false
set_option maxRecDepth 100000
namespace Go.Proofs
open Go Go.Mu Go.Ins
variable {S : MC Tryz.prog}

theorem hto_p (a b : Int) : PureV S 60 [.int .i64 a, .int .i64 b] (Rng.mk a b).av := by
  refine PureV.of_ev (E := Tryz.E (S := S) 8 (fun _ => ([], [])) fs0) (Tryz.envOK (S := S) 8 (fun _ => ([], [])) fs0 fs0_ok) (Rng.plain _) Tryz.kp60 Tryz.func60 rfl (by kernel_rfl) (by simp [Tryz.E]) (Callable.of Tryz.func60 (by kernel_rfl) (by kernel_rfl)) (by kernel_rfl) ?_
  intro σ
  simp -implicitDefEqProofs (maxSteps := 2000000) (disch := omega) only [go_sem, simprocAttr, Rng.av]
def hto_s := spec2 tI tI fun a b => some (Rng.mk a b).av
theorem hto_ok : ∀ xs v, hto_s xs = some v → PureV S 60 xs v :=
  spec2_ok fun a b v h => by simp only [Option.some.injEq] at h; rw [← h]; exact hto_p a b
def fs408 (f : FuncId) (xs : List AV) : Option AV := if f = 60 then hto_s xs else if f = 51 then sameInts_s xs else fs407 f xs
theorem fs408_ok {S : MC Tryz.prog} : ∀ f xs v, fs408 f xs = some v → PureV S f xs v := by
  intro f xs v h
  unfold fs408 at h
  split at h
  · rename_i e; subst e; exact hto_ok _ _ h
  split at h
  · rename_i e; subst e; exact sameInts_ok _ _ h
  exact fs407_ok _ _ _ h
attribute [go_sem] fs408 hto_s sameInts_s
theorem htuned_p (d b due lo hi : Int) : PureV S 63 [.int .i64 d, .int .i64 b, .int .i64 due, .int .i64 lo, .int .i64 hi] (tnd d b due lo hi).av := by
  refine PureV.of_ev (E := Tryz.E (S := S) 20 (fun _ => ([], [])) fs408) (Tryz.envOK (S := S) 20 (fun _ => ([], [])) fs408 fs408_ok) ((Plain.agg (Tn.plains _))) Tryz.kp63 Tryz.func63 rfl (by kernel_rfl) (by simp [Tryz.E]) (Callable.of Tryz.func63 (by kernel_rfl) (by kernel_rfl)) (by kernel_rfl) ?_
  intro σ
  simp -implicitDefEqProofs (maxSteps := 2000000) (disch := omega) only [go_sem, simprocAttr, Rng.av, Tn.av, Tn.cells, tnd]
theorem shop_p : PureV S 91 [] shopR.av := by
  refine PureV.of_ev (E := Tryz.E (S := S) 7 (fun _ => ([], [])) fs408) (Tryz.envOK (S := S) 7 (fun _ => ([], [])) fs408 fs408_ok) (Ros.plain _) Tryz.kp91 Tryz.func91 rfl (by kernel_rfl) (by simp [Tryz.E]) (Callable.of Tryz.func91 (by kernel_rfl) (by kernel_rfl)) (by kernel_rfl) ?_
  intro σ
  simp -implicitDefEqProofs (maxSteps := 2000000) (disch := omega) only [go_sem, simprocAttr, Rng.av]
  refine htuned_p _ _ _ _ _ _ _ ?_
  simp -implicitDefEqProofs (maxSteps := 2000000) (disch := omega) only [go_sem, simprocAttr, Rng.av]
  refine htuned_p _ _ _ _ _ _ _ ?_
  simp -implicitDefEqProofs (maxSteps := 2000000) (disch := omega) only [go_sem, simprocAttr, Rng.av]
  refine htuned_p _ _ _ _ _ _ _ ?_
  simp only [Tn.av, Tn.cells, tnd, List.map_cons, List.map_nil, Rng.av]
  simp -implicitDefEqProofs (maxSteps := 2000000) (disch := omega) only [go_sem, simprocAttr, Rng.av, Ros.av, shopR, Tn.av, Tn.cells, tnd]
theorem lone_p : PureV S 90 [] loneR.av := by
  refine PureV.of_ev (E := Tryz.E (S := S) 7 (fun _ => ([], [])) fs408) (Tryz.envOK (S := S) 7 (fun _ => ([], [])) fs408 fs408_ok) (Ros.plain _) Tryz.kp90 Tryz.func90 rfl (by kernel_rfl) (by simp [Tryz.E]) (Callable.of Tryz.func90 (by kernel_rfl) (by kernel_rfl)) (by kernel_rfl) ?_
  intro σ
  simp -implicitDefEqProofs (maxSteps := 2000000) (disch := omega) only [go_sem, simprocAttr, Rng.av]
  refine shop_p _ _ ?_
  simp only [Ros.av]
  simp -implicitDefEqProofs (maxSteps := 2000000) (disch := omega) only [go_sem, simprocAttr, Rng.av]
  refine htuned_p _ _ _ _ _ _ _ ?_
  simp only [Tn.av, Tn.cells, tnd, List.map_cons, List.map_nil, Rng.av]
  simp -implicitDefEqProofs (maxSteps := 2000000) (disch := omega) only [go_sem, simprocAttr, Rng.av, Ros.av, shopR, loneR, Tn.av, Tn.cells, tnd]
theorem hsameLists_p (a b : List (List Int)) (hl : a.length ≤ 4294967296) (hl2 : b.length ≤ 4294967296) (ha : ∀ x ∈ a, x.length ≤ 4294967296) (hb : ∀ x ∈ b, x.length ≤ 4294967296) : PureV S 50 [.list .no 1 (a.map ints1), .list .no 1 (b.map ints1)] (.bool (decide (a = b))) := by
  refine PureV.of_ev (E := Tryz.E (S := S) 31 Tryz.ord50 fs408) (Tryz.envOK (S := S) 31 Tryz.ord50 fs408 fs408_ok) (.bool) Tryz.kp50 Tryz.func50 rfl (by kernel_rfl) (by simp [Tryz.E]) (Callable.of Tryz.func50 (by kernel_rfl) (by kernel_rfl)) (by kernel_rfl) ?_
  intro σ
  by_cases hlen : a.length = b.length
  · have hz : ((a.length : Int) = b.length) := by omega
    simp -implicitDefEqProofs (maxSteps := 2000000) (disch := omega) only [go_sem, simprocAttr]
    refine ARun.loopJ (Tryz.envOK (S := S) 31 Tryz.ord50 fs408 fs408_ok) (α := Nat × Bool) (fun p => a.length - p.1) (fun p τ => τ = σ ∧ p.1 ≤ a.length ∧ p.2 = decide (a.take p.1 = b.take p.1)) (fun p => [(5, .bool p.2), (6, .int .i64 p.1)]) (0, true) (by kernel_rfl) (by simp [upd, ins, subF, lookA]) ⟨rfl, Nat.zero_le _, by simp⟩ ?_
    rintro ⟨i, c⟩ τ ⟨rfl, hi, hc⟩ ih
    simp only at hi hc ih
    cases c
    · simp -implicitDefEqProofs (maxSteps := 2000000) (disch := omega) only [go_sem, simprocAttr]
      have : ¬ a = b := fun e => by subst e; simp at hc
      simp [this]
    · have htk : a.take i = b.take i := by simpa using hc
      by_cases hlt : i < a.length
      · have hst := same_step hlen hlt htk
        have hia : idx (a.map ints1) (i : Int) = some (ints1 a[i]) := idx_nat hlt
        have hib : idx (b.map ints1) (i : Int) = some (ints1 (b[i]'(by omega))) := idx_nat (by omega)
        have hxl := ha _ (List.getElem_mem hlt)
        have hyl := hb _ (List.getElem_mem (show i < b.length by omega))
        generalize a[i] = x at hst hia hxl
        generalize b[i]'(by omega) = y at hst hib hyl
        clear hc htk
        simp -implicitDefEqProofs (maxSteps := 2000000) (disch := omega) only [go_sem, simprocAttr, hia, hib, ints1]
        refine ⟨fun h => (ih (i + 1, true) _ (by simp only; omega) ⟨rfl, by simp only; omega, ?_⟩).castS rfl (by simp [upd, ins, subF, lookA]), fun h => (ih (i + 1, false) _ (by simp only; omega) ⟨rfl, by simp only; omega, ?_⟩).castS rfl (by simp [upd, ins, subF, lookA])⟩
        · simp [hst, h]
        · simp [hst, h]
      · have : i = a.length := by omega
        subst this
        simp -implicitDefEqProofs (maxSteps := 2000000) (disch := omega) only [go_sem, simprocAttr]
        have : a = b := by rwa [List.take_length, hlen, List.take_length] at htk
        simp [this]
  · have hz : ¬ ((a.length : Int) = b.length) := by omega
    have : ¬ a = b := fun e => hlen (by rw [e])
    simp -implicitDefEqProofs (maxSteps := 2000000) (disch := omega) only [go_sem, simprocAttr]
    refine ARun.once (Tryz.envOK (S := S) 31 Tryz.ord50 fs408 fs408_ok) (by kernel_rfl) ?_
    simp -implicitDefEqProofs (maxSteps := 2000000) (disch := omega) only [go_sem, simprocAttr]
    simp [this]
end Go.Proofs
set_option linter.unusedSimpArgs false
set_option linter.unusedVariables false
set_option maxRecDepth 100000
namespace Go.Proofs
open Go Go.Mu Go.Ins

def Tryz.ordSt : Nat → List Nat × List (Nat × List Nat)
  | 6 => ([0, 1, 3, 7, 15, 31, 63, 127, 255, 511, 1023, 2047, 4095, 8191, 16383, 32767, 65535, 131071, 262143, 524287, 1048575, 2097151, 4194303, 8388607, 8388607, 33554431, 67108863, 134217727, 268435455, 268435455, 268435455, 1879048191, 4294967295, 8589934591, 17179869183, 34359738367, 34359738367, 137438953471, 274877906943, 549755813887, 1099511627775, 1099511627775, 4398046511103, 8796093022207, 17592186044415], [(0, []), (1, []), (2, []), (3, []), (4, []), (5, []), (6, []), (7, []), (8, []), (9, []), (10, []), (11, []), (12, []), (13, []), (14, []), (15, []), (16, []), (17, []), (18, []), (19, []), (20, []), (21, []), (22, []), (23, []), (24, [24]), (25, []), (26, []), (27, []), (28, []), (29, []), (30, []), (31, []), (32, []), (33, []), (34, []), (35, []), (36, []), (37, [37]), (38, []), (39, []), (40, []), (41, []), (42, [42]), (43, []), (44, [])])
  | _ => ([], [])
theorem Tryz.ordSt_6 : Tryz.ordSt 6 = ([0, 1, 3, 7, 15, 31, 63, 127, 255, 511, 1023, 2047, 4095, 8191, 16383, 32767, 65535, 131071, 262143, 524287, 1048575, 2097151, 4194303, 8388607, 8388607, 33554431, 67108863, 134217727, 268435455, 268435455, 268435455, 1879048191, 4294967295, 8589934591, 17179869183, 34359738367, 34359738367, 137438953471, 274877906943, 549755813887, 1099511627775, 1099511627775, 4398046511103, 8796093022207, 17592186044415], [(0, []), (1, []), (2, []), (3, []), (4, []), (5, []), (6, []), (7, []), (8, []), (9, []), (10, []), (11, []), (12, []), (13, []), (14, []), (15, []), (16, []), (17, []), (18, []), (19, []), (20, []), (21, []), (22, []), (23, []), (24, [24]), (25, []), (26, []), (27, []), (28, []), (29, []), (30, []), (31, []), (32, []), (33, []), (34, []), (35, []), (36, []), (37, [37]), (38, []), (39, []), (40, []), (41, []), (42, [42]), (43, []), (44, [])]) := rfl
attribute [go_sem] Tryz.ordSt_6
theorem shop_fit : shopR.Fit := ⟨by decide, by decide, by decide +kernel⟩
theorem lone_fit : loneR.Fit := ⟨by decide, by decide, by decide +kernel⟩
set_option maxHeartbeats 4000000 in
theorem steady_p : PureV SBes 26 [] (.bool true) := by
  refine PureV.of_ev (E := Tryz.E (S := SBes) 80 Tryz.ordSt fs408) (Tryz.envOK (S := SBes) 80 Tryz.ordSt fs408 fs408_ok) (.bool) Tryz.kp26 Tryz.func26 rfl (by kernel_rfl) (by simp [Tryz.E]) (Callable.of Tryz.func26 (by kernel_rfl) (by kernel_rfl)) (by kernel_rfl) ?_
  intro σ
  simp -implicitDefEqProofs (maxSteps := 2000000) (disch := omega) only [go_sem, simprocAttr]
  refine lone_p _ _ ?_
  simp -implicitDefEqProofs (maxSteps := 2000000) (disch := omega) only [go_sem, simprocAttr]
  refine fewest_p loneR lone_fit _ _ ?_
  rw [lone_few, lone_k rfl]
  simp -implicitDefEqProofs (maxSteps := 2000000) (disch := omega) only [go_sem, simprocAttr]
  refine shop_p _ _ ?_
  simp -implicitDefEqProofs (maxSteps := 2000000) (disch := omega) only [go_sem, simprocAttr]
  refine convicts_p shopR shop_fit _ _ ?_
  rw [shop_conv, shop_k rfl]
  simp -implicitDefEqProofs (maxSteps := 2000000) (disch := omega) only [go_sem, simprocAttr]
  refine shop_p _ _ ?_
  simp -implicitDefEqProofs (maxSteps := 2000000) (disch := omega) only [go_sem, simprocAttr]
  refine ratesS_p shopR shop_fit 0 shop_rE (by rw [shop_rof]; decide) (by rw [shop_rof]; decide) _ _ ?_
  rw [shop_rL]
  simp -implicitDefEqProofs (maxSteps := 2000000) (disch := omega) only [go_sem, simprocAttr]
  refine shop_p _ _ ?_
  simp -implicitDefEqProofs (maxSteps := 2000000) (disch := omega) only [go_sem, simprocAttr]
  refine test_p shopR shop_fit 0 10 44000 _ _ ?_
  rw [shop_tE, shop_tL]
  simp -implicitDefEqProofs (maxSteps := 2000000) (disch := omega) only [go_sem, simprocAttr]
  refine shop_p _ _ ?_
  simp -implicitDefEqProofs (maxSteps := 2000000) (disch := omega) only [go_sem, simprocAttr]
  refine trusted_p shopR shop_fit 0 5 (by decide) _ _ ?_
  rw [shop_uE, shop_uL]
  simp -implicitDefEqProofs (maxSteps := 2000000) (disch := omega) only [go_sem, simprocAttr, Rng.av, ints1]
  refine ACalls.weaken (l' := [.list .no 1 ([[0], [1]].map ints1), .list .no 1 ([[0], [1]].map ints1)]) ⟨⟨rfl, .inl rfl, .inl rfl⟩, ⟨rfl, .inl rfl, .inl rfl⟩, trivial⟩ (hsameLists_p [[0], [1]] [[0], [1]] (by decide) (by decide) (by decide) (by decide) _ _ ?_)
  rw [decide_eq_true rfl]
  simp -implicitDefEqProofs (maxSteps := 2000000) (disch := omega) only [go_sem, simprocAttr, Rng.av, ints1]
end Go.Proofs
set_option linter.unusedSimpArgs false
set_option linter.unusedVariables false
set_option maxRecDepth 100000
namespace Go.Proofs
open Go Go.Mu Go.Ins

theorem TrueR.fit {H E w : Int} {r : Ros} {rates by_ : List Int} (h : TrueR H E w r rates by_) (hE : E ≤ 5) : r.Fit := by
  have h1 := h.sl
  have h2 := h.el
  refine ⟨by omega, by omega, fun x hx => ?_⟩
  obtain ⟨b, hb⟩ := h.by_at hx
  obtain ⟨t, lo, hi, rds, _, _, g3, g4⟩ := hb.ear
  rw [g4]
  rcases g3 with rfl | rfl <;> simp
end Go.Proofs
set_option linter.unusedSimpArgs false
set_option linter.unusedVariables false
set_option maxRecDepth 100000
namespace Go.Proofs
open Go Go.Mu Go.Ins
variable {S : MC Tryz.prog}

/-- The first of several things that has the least number. -/
def leastF (f : Int → Int) (m : Int × Int) (x : Int) : Int × Int := if f x < m.2 then (x, f x) else m
def leastOf (f : Int → Int) (l : List Int) : Int × Int := (l.drop 1).foldl (leastF f) (l.headD 0, f (l.headD 0))
set_option maxHeartbeats 4000000 in
theorem hleast_c {g : FuncId} {p q : List AV} {σ : List AObj} (f : Int → Int) (x : Int) (l : List Int) (hl : l.length ≤ 1000000) (hn : ∀ d ∈ x :: l, ClV S g p q σ [.int .i64 d] (.int .i64 (f d))) (tk : Tok) (Q : AV → List AObj → Prop) (h : Q (.tup [.int .i64 (leastOf f (x :: l)).1, .int .i64 (leastOf f (x :: l)).2]) σ) :
    ACalls S 115 [.list tk 1 ((x :: l).map (.int .i64)), .fn (.func g) p q] σ Q := by
  refine ACalls.of_ev (E := Tryz.E (S := S) 37 Tryz.ord115 fs0) (Tryz.envOK (S := S) 37 Tryz.ord115 fs0 fs0_ok) Tryz.kp115 Tryz.func115 rfl (by kernel_rfl) (by simp [Tryz.E]) (Callable.of Tryz.func115 (by kernel_rfl) (by kernel_rfl)) (by kernel_rfl) ?_
  have hld : leastOf f (x :: l) = l.foldl (leastF f) (x, f x) := rfl
  rw [hld] at h
  have h0 : idx (AV.int .i64 x :: l.map (AV.int .i64)) 0 = some (.int .i64 x) := rfl
  simp -implicitDefEqProofs (maxSteps := 2000000) (disch := omega) only [go_sem, simprocAttr, h0]
  refine (hn x (by simp)).ap0 ?_
  have hdt : List.drop 1 (List.take ((l.length : Int) + 1).toNat (AV.int .i64 x :: l.map (AV.int .i64))) = l.map (.int .i64) := by
    rw [show ((l.length : Int) + 1).toNat = l.length + 1 by omega, List.take_succ_cons, List.drop_succ_cons, List.drop_zero, List.take_of_length_le (by simp)]
  simp -implicitDefEqProofs (maxSteps := 2000000) (disch := omega) only [go_sem, simprocAttr, h0, hdt]
  refine ARun.forS (Tryz.envOK (S := S) 37 Tryz.ord115 fs0 fs0_ok) l.length (fun _ => True) (fun i => [(6, .int .i64 ((l.take i).foldl (leastF f) (x, f x)).1), (7, .int .i64 ((l.take i).foldl (leastF f) (x, f x)).2), (22, .int .i64 i)]) (fun _ _ => σ) [] (by kernel_rfl) rfl (by simp [upd, ins, subF, lookA]) trivial ?_ ?_
  · intro i j hi _ ih
    rw [take_foldl hi] at ih
    have hmi := hn l[i] (by simp)
    have hidx : idx (l.map (AV.int .i64)) (i : Int) = some (.int .i64 l[i]) := idx_nat hi
    generalize (l.take i).foldl (leastF f) (x, f x) = m at ih ⊢
    generalize l[i] = y at hmi hidx ih
    simp -implicitDefEqProofs (maxSteps := 2000000) (disch := omega) only [go_sem, simprocAttr, hidx]
    refine hmi.ap0 ?_
    by_cases c : f y < m.2
    · rw [show leastF f m y = (y, f y) from if_pos c] at ih
      have c' : (f y < m.2) = True := eq_true c
      simp -implicitDefEqProofs (maxSteps := 2000000) (disch := omega) only [go_sem, simprocAttr, c']
      exact (ih trivial []).castS rfl (by simp [upd, ins, subF, lookA])
    · rw [show leastF f m y = m from if_neg c] at ih
      have c' : (f y < m.2) = False := eq_false c
      simp -implicitDefEqProofs (maxSteps := 2000000) (disch := omega) only [go_sem, simprocAttr, c']
      exact (ih trivial []).castS rfl (by simp [upd, ins, subF, lookA])
  · intro j _
    rw [List.take_length]
    simp -implicitDefEqProofs (maxSteps := 2000000) (disch := omega) only [go_sem, simprocAttr]
    exact h
/-- How many lists are left at worst, if somebody looks at a hand. -/
def worstH (F : List (List Int)) (h : Int) : Int := if (cntL F h : Int) < (F.length : Int) - cntL F h then (F.length : Int) - cntL F h else cntL F h
theorem next1_v {F : List (List Int)} {σ : List AObj} {a : Nat} {d : Int} (hF : F.length ≤ 1000) (hel : ∀ x ∈ F, x.length ≤ 1000000) (h1 : hget σ a = some (.cells [.list .no 1 (F.map ints1)])) : ClV S 116 [] [.ptr a 0] σ [.int .i64 d] (.int .i64 (worstH F d)) := by
  intro σ' hl' hs' Q hq
  have h1' := (hs' _ (hget_lt h1)).trans h1
  simp only [List.nil_append, List.cons_append]
  have hc : cntL F d ≤ F.length := by unfold cntL; exact List.length_filter_le _ _
  refine ACalls.clean_ev (E := Tryz.E (S := S) 14 Tryz.ord116 fs407) (Tryz.envOK (S := S) 14 Tryz.ord116 fs407 fs407_ok) (.int _ _) (hq) Tryz.kp116 Tryz.func116 rfl (by kernel_rfl) (by simp [Tryz.E]) (Callable.of Tryz.func116 (by kernel_rfl) (by kernel_rfl)) (by kernel_rfl) ?_
  have hw : IntKind.i64.wrap ((F.length : Int) - cntL F d) = (F.length : Int) - cntL F d := wrap64 (by omega) (by omega)
  simp -implicitDefEqProofs (maxSteps := 2000000) (disch := omega) only [go_sem, simprocAttr, h1']
  refine hcount_p F d (by omega) hel _ _ ?_
  simp -implicitDefEqProofs (maxSteps := 2000000) (disch := omega) only [go_sem, simprocAttr, h1']
  refine hcount_p F d (by omega) hel _ _ ?_
  simp -implicitDefEqProofs (maxSteps := 2000000) (disch := omega) only [go_sem, simprocAttr, h1', hw]
  rfl
end Go.Proofs
set_option linter.unusedSimpArgs false
set_option linter.unusedVariables false
set_option maxRecDepth 100000
namespace Go.Proofs
open Go Go.Mu Go.Ins

/-- The hand that somebody should look at, and how many lists are left. -/
def handsL (n : Nat) : List Int := (List.range n).map fun (h : Nat) => (h : Int)
def nextL (r : Ros) : Int × Int := if knownE r [] = 0 then leastOf (worstH (fewL r)) (handsL r.hands.toNat) else (0, 0)
theorem handsL_succ {n : Nat} : handsL (n + 1) = handsL n ++ [(n : Int)] := by unfold handsL; rw [List.range_succ, List.map_append]; rfl
theorem handsL_cons {n : Nat} (h : 0 < n) : ∃ l, handsL n = 0 :: l ∧ l.length + 1 = n := by
  obtain ⟨m, rfl⟩ : ∃ m, n = m + 1 := ⟨n - 1, by omega⟩
  refine ⟨(List.range m).map fun (h : Nat) => ((h + 1 : Nat) : Int), ?_, by simp⟩
  unfold handsL
  rw [List.range_succ_eq_map, List.map_cons, List.map_map]; rfl
set_option maxHeartbeats 4000000 in
theorem handNext_p (r : Ros) (hf : r.Fit) : PureV SBes 58 [r.av] (.tup [.int .i64 (nextL r).1, .int .i64 (nextL r).2, .int .i64 (knownE r [])]) := by
  refine PureV.of_ev (E := Tryz.E (S := SBes) 34 (fun _ => ([], [])) fs407) (Tryz.envOK (S := SBes) 34 (fun _ => ([], [])) fs407 fs407_ok) (.tup (by simp only [List.mem_cons, List.not_mem_nil, or_false, forall_eq_or_imp, forall_eq]; exact ⟨.int, .int, .int⟩)) Tryz.kp58 Tryz.func58 rfl (by kernel_rfl) (by simp [Tryz.E]) (Callable.of Tryz.func58 (by kernel_rfl) (by kernel_rfl)) (by kernel_rfl) ?_
  intro σ
  simp only [Ros.av]
  simp -implicitDefEqProofs (maxSteps := 2000000) (disch := omega) only [go_sem, simprocAttr]
  refine fewest_p r hf _ _ ?_
  obtain ⟨hF6, hF4⟩ := fewL_few r
  by_cases hE : knownE r [] = 0
  · have hg := known_good hE
    have hh := hg.hands
    have hH : (r.hands.toNat : Int) = r.hands := by omega
    rw [show nextL r = leastOf (worstH (fewL r)) (handsL r.hands.toNat) from if_pos hE, hE]
    generalize fewL r = F at hF6 hF4 ⊢
    simp -implicitDefEqProofs (maxSteps := 2000000) (disch := omega) only [go_sem, simprocAttr]
    refine ARun.ghost 6 1 (sz0 := 0) rfl (by simp [lookA]) ?_
    simp only [ins, ↓reduceIte, Nat.reduceEqDiff, List.append_assoc, List.cons_append, List.nil_append, List.length_append, List.length_cons, List.length_nil, Nat.zero_add, Nat.reduceAdd]
    refine ARun.forS (Tryz.envOK (S := SBes) 34 (fun _ => ([], [])) fs407 fs407_ok) r.hands.toNat (fun _ => True) (fun i => [(6, .list (.own (σ.length + 2)) 1 ((handsL i).map (.int .i64))), (18, .int .i64 i)]) (fun i _ => σ ++ [.cells [.int .i64 r.hands, .int .i64 r.skill, .int .i64 r.mn, .int .i64 r.mx, .list .no 2 (r.sets.map Sg.av), .list .no 6 (r.ents.map Tn.av)], .cells [.list .no 1 (F.map ints1)], .tail (handsL i).length 1]) [] (by kernel_rfl) (by simp [handsL]) (by simp [upd, ins, subF, lookA, handsL, hH]) trivial ?_ ?_
    · intro i j hi _ ih
      have hcl : (handsL i).length = i := by simp [handsL]
      rw [handsL_succ] at ih
      have hwi : IntKind.i64.wrap ((i : Int) + 1) = ((i + 1 : Nat) : Int) := by rw [wrap64 (by omega) (by omega)]; rfl
      generalize handsL i = C at hcl ih ⊢
      simp -implicitDefEqProofs (maxSteps := 2000000) (disch := omega) only [go_sem, simprocAttr, hcl, hwi]
      exact (ih trivial []).castS (by simp [hcl]) (by simp [upd, ins, subF, lookA])
    · intro j _
      obtain ⟨l, hl, hll⟩ := handsL_cons (n := r.hands.toNat) (by omega)
      rw [hl]
      simp -implicitDefEqProofs (maxSteps := 2000000) (disch := omega) only [go_sem, simprocAttr]
      refine hleast_c (worstH F) 0 l (by omega) (fun d _ => next1_v (F := F) (a := σ.length + 1) (by omega) (fun x hx => by have := hF4 x hx; omega) (by simp [hget_at])) _ _ ?_
      simp -implicitDefEqProofs (maxSteps := 2000000) (disch := omega) only [go_sem, simprocAttr]
      all_goals done
  · have hE' : (knownE r [] = 0) = False := eq_false hE
    rw [show nextL r = (0, 0) from if_neg hE]
    simp -implicitDefEqProofs (maxSteps := 2000000) (disch := omega) only [go_sem, simprocAttr, hE']
end Go.Proofs
set_option linter.unusedSimpArgs false
set_option linter.unusedVariables false
set_option maxRecDepth 100000
namespace Go.Proofs
open Go Go.Mu Go.Ins
variable {S : MC Tryz.prog}

theorem leastF_spec (f : Int → Int) : ∀ (n : Nat), let m := ((List.range n).map fun (h : Nat) => ((h + 1 : Nat) : Int)).foldl (leastF f) (0, f 0); (0 ≤ m.1 ∧ m.1 ≤ n) ∧ m.2 = f m.1 ∧ (∀ h : Int, 0 ≤ h → h ≤ n → m.2 ≤ f h) ∧ ∀ h : Int, 0 ≤ h → h < m.1 → m.2 < f h
  | 0 => by
    refine ⟨by simp, rfl, fun h h1 h2 => ?_, fun h h1 h2 => ?_⟩
    · have : h = 0 := by omega
      subst this; exact Int.le_refl _
    · simp at h2; omega
  | n + 1 => by
    intro m
    obtain ⟨i1, i2, i3, i4⟩ := leastF_spec f n
    have hm : m = leastF f (((List.range n).map fun (h : Nat) => ((h + 1 : Nat) : Int)).foldl (leastF f) (0, f 0)) ((n + 1 : Nat) : Int) := by
      show ((List.range (n + 1)).map fun (h : Nat) => ((h + 1 : Nat) : Int)).foldl (leastF f) (0, f 0) = _
      rw [List.range_succ, List.map_append, List.foldl_append]; rfl
    generalize ((List.range n).map fun (h : Nat) => ((h + 1 : Nat) : Int)).foldl (leastF f) (0, f 0) = k at i1 i2 i3 i4 hm
    rw [hm]
    unfold leastF
    by_cases c : f ((n + 1 : Nat) : Int) < k.2
    · rw [if_pos c]
      refine ⟨by simp only; omega, rfl, fun h h1 h2 => ?_, fun h h1 h2 => ?_⟩
      · simp only
        by_cases e : h = ((n + 1 : Nat) : Int)
        · rw [e]; exact Int.le_refl _
        · have := i3 h h1 (by omega); omega
      · simp only at h2 ⊢
        have := i3 h h1 (by omega); omega
    · rw [if_neg c]
      refine ⟨by omega, i2, fun h h1 h2 => ?_, i4⟩
      by_cases e : h = ((n + 1 : Nat) : Int)
      · rw [e]; omega
      · exact i3 h h1 (by omega)
theorem leastOf_spec (f : Int → Int) {n : Nat} (hn : 0 < n) : (0 ≤ (leastOf f (handsL n)).1 ∧ (leastOf f (handsL n)).1 < n) ∧ (∀ h : Int, 0 ≤ h → h < n → (leastOf f (handsL n)).2 ≤ f h) ∧ (∀ h : Int, 0 ≤ h → h < (leastOf f (handsL n)).1 → (leastOf f (handsL n)).2 < f h) ∧ (leastOf f (handsL n)).2 = f (leastOf f (handsL n)).1 := by
  obtain ⟨m, rfl⟩ : ∃ m, n = m + 1 := ⟨n - 1, by omega⟩
  have e : leastOf f (handsL (m + 1)) = ((List.range m).map fun (h : Nat) => ((h + 1 : Nat) : Int)).foldl (leastF f) (0, f 0) := by
    unfold leastOf handsL
    rw [List.range_succ_eq_map, List.map_cons, List.map_map]; rfl
  obtain ⟨i1, i2, i3, i4⟩ := leastF_spec f m
  rw [e]
  exact ⟨by omega, fun h h1 h2 => i3 h h1 (by omega), i4, i2⟩
theorem hplace_p (l : List Int) (x : Int) (hl : l.length ≤ 1000000) : PureV S 24 [.list .no 1 (l.map (.int .i64)), .int .i64 x] (.int .i64 (hplaceL l x)) := by
  refine PureV.of_ev (E := Tryz.E (S := S) 19 (fun _ => ([], [])) fs0) (Tryz.envOK (S := S) 19 (fun _ => ([], [])) fs0 fs0_ok) (.int) Tryz.kp24 Tryz.func24 rfl (by kernel_rfl) (by simp [Tryz.E]) (Callable.of Tryz.func24 (by kernel_rfl) (by kernel_rfl)) (by kernel_rfl) ?_
  intro σ
  simp -implicitDefEqProofs (maxSteps := 2000000) (disch := omega) only [go_sem, simprocAttr]
  refine ARun.forS (Tryz.envOK (S := S) 19 (fun _ => ([], [])) fs0 fs0_ok) l.length (fun i => x ∉ l.take i) (fun i => [(5, .int .i64 i)]) (fun _ _ => σ) [] (by kernel_rfl) rfl (by simp [upd, ins, subF, lookA]) (by simp) ?_ ?_
  · intro i j hi hp ih
    have hli : idx (l.map (AV.int .i64)) (i : Int) = some (.int .i64 l[i]) := by rw [idx_nat hi]
    have hat := hplace_at (x := x) hi hp
    have hns := hnotin_succ (x := x) hi hp
    generalize l[i] = y at hli hat hns
    clear hp
    by_cases hy : y = x
    · rw [hat hy]
      have hy' : (y = x) = True := eq_true hy
      simp -implicitDefEqProofs (maxSteps := 2000000) (disch := omega) only [go_sem, simprocAttr, hli, hy']
    · have hy' : (y = x) = False := eq_false hy
      simp -implicitDefEqProofs (maxSteps := 2000000) (disch := omega) only [go_sem, simprocAttr, hli, hy']
      exact (ih (hns hy) []).castS rfl (by simp [upd, ins, subF, lookA])
  · intro j hp
    rw [List.take_length] at hp
    have : hplaceL l x = -1 := by unfold hplaceL; rw [if_neg hp]
    rw [this]
    simp -implicitDefEqProofs (maxSteps := 2000000) (disch := omega) only [go_sem, simprocAttr]
theorem cntL_succ {l : List (List Int)} {h : Int} {i : Nat} (hi : i < l.length) : cntL (l.take (i + 1)) h = cntL (l.take i) h + if l[i].contains h then 1 else 0 := by
  unfold cntL
  rw [List.take_succ_eq_append_getElem hi, List.filter_append, List.length_append]
  cases hc : l[i].contains h
  · simp only [List.filter_cons, hc, List.filter_nil, Bool.false_eq_true, if_false, List.length_nil]
  · simp only [List.filter_cons, hc, List.filter_nil, if_true, List.length_cons, List.length_nil]
end Go.Proofs
