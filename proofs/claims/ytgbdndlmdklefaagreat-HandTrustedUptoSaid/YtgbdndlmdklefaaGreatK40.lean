/- Texts of a proof: lemmas. -/
import Derived.Test.YtgbdndlmdklefaaGreatK33
import Derived.Test.YtgbdndlmdklefaaGreatK38
import Derived.Test.YtgbdndlmdklefaaGreatK39
import Derived.Test.YtgbdndlmdklefaaGreatK32
set_option linter.unusedSimpArgs false
set_option linter.unusedVariables false
set_option maxRecDepth 100000
namespace Go.Proofs
open Go Go.Mu Go.Ins

theorem hfirstE_of {α : Type} {f : α → Int} : ∀ {l : List α}, (∀ x ∈ l, f x = 0) → firstE f l = 0
  | [], _ => rfl
  | x :: l, h => by
    show (if f x = 0 then firstE f l else f x) = 0
    rw [if_pos (h x (by simp))]
    exact hfirstE_of fun y hy => h y (by simp [hy])
theorem truthsL_one (sl lo hi : Int) (rds : List Rd) : truthsL ⟨sl, [⟨lo, hi⟩], rds⟩ = (List.range (hi - lo + 1).toNat).flatMap fun (k : Nat) => allT ⟨sl, [⟨lo, hi⟩], rds⟩ 0 (setI [0, 0, 0] ((0 : Nat) : Int) (lo + k)) 1 := rfl
theorem trueT_chk {r : Ros} {rates : List Int} {w : Int} {x : Tn} {b : Int} (h : TrueT r rates w x b) (hw : 0 ≤ w ∧ w ≤ 10) (hs : 0 ≤ r.skill ∧ r.skill ≤ 3) :
    (chkE x r.hands).2 = 0 ∧ ∃ d ∈ (chkE x r.hands).1, -r.skill ≤ d - offX r rates b x.day ∧ d - offX r rates b x.day ≤ r.skill := by
  obtain ⟨t, lo, hi, rds, ⟨e1, e2⟩, g2, g3, g4⟩ := h.ear
  have hb := h.by_in
  have hd := h.day
  have hh := h.hand
  have hdu := h.due
  obtain ⟨day, hand, due, ear⟩ := x
  simp only at g4 hd hh hdu e1 e2 ⊢
  subst g4
  have hck : ck ⟨0, [⟨lo, hi⟩], rds⟩ = 0 := by
    unfold ck
    have hT : firstE ckT [(⟨lo, hi⟩ : Rng)] = 0 := by
      refine hfirstE_of (fun y hy => ?_)
      simp at hy; subst hy
      unfold ckT
      dsimp only
      repeat' split
      all_goals omega
    have hR : firstE (fun r => ckR r (1 : Nat)) rds = 0 := by
      refine hfirstE_of (fun y hy => ?_)
      rcases g3 with rfl | rfl
      · simp at hy
      · simp at hy; subst hy
        unfold ckR
        simp only
        repeat' split
        all_goals omega
    have hl : rds.length ≤ 1 := by rcases g3 with rfl | rfl <;> simp
    simp only [List.length_cons, List.length_nil, Nat.zero_add]
    rw [if_neg (by omega), if_neg (by omega), if_neg (by omega), if_neg (fun c => c hT), if_neg (by omega)]
    exact hR
  have htm : [t, 0, 0] ∈ truthsL ⟨0, [⟨lo, hi⟩], rds⟩ := by
    rw [truthsL_one, List.mem_flatMap]
    refine ⟨(t - lo).toNat, List.mem_range.2 (by omega), ?_⟩
    have hts : setI [0, 0, 0] ((0 : Nat) : Int) (lo + ((t - lo).toNat : Int)) = [t, 0, 0] := by
      rw [show lo + ((t - lo).toNat : Int) = t by omega]; rfl
    have hal : (rds.all fun r => isR r 0 [t, 0, 0]) = true := by
      rcases g3 with rfl | rfl
      · rfl
      · simp only [List.all_cons, List.all_nil, Bool.and_true, isR, if_true, tg]
        exact decide_eq_true (by
          have : ([t, 0, 0] : List Int).getD (Int.toNat 0) 0 = t := rfl
          rw [this]; omega)
    rw [hts]
    show [t, 0, 0] ∈ if (rds.all fun r => isR r 0 [t, 0, 0]) = true then [[t, 0, 0]] else []
    rw [if_pos hal]; simp
  have hn : truthsL ⟨0, [⟨lo, hi⟩], rds⟩ ≠ [] := List.ne_nil_of_mem htm
  rw [chkE_one (by simp only; omega) (by simp only; omega) (by simp only; omega) hck rfl hn]
  refine ⟨rfl, t - due, List.mem_map.2 ⟨t, ?_, rfl⟩, by omega, by omega⟩
  have : t ∈ firstsL ((truthsL ⟨0, [⟨lo, hi⟩], rds⟩).map fun t => tg t 0) := (addN_mem _ [] _).2 (.inr (List.mem_map.2 ⟨[t, 0, 0], htm, rfl⟩))
  exact this
theorem TrueR.head {H E w : Int} {r : Ros} {rates by_ : List Int} (h : TrueR H E w r rates by_) (hH : H ≤ 4) (hE : E ≤ 5) : headE r = 0 := by
  have h1 := h.hands
  have h2 := h.skill
  have h3 := h.mn
  have h4 := h.mx
  have h5 := h.sl
  have h6 := h.el
  have hs : firstE (setE r.hands) r.sets = 0 := hfirstE_of fun s hs => by
    have := h.set s hs
    unfold setE
    rw [if_neg (by omega), if_neg (by omega)]
  unfold headE
  rw [if_neg (by omega), if_neg (by omega), if_neg (by omega), if_neg (fun c => c hs), if_neg (by omega)]
theorem TrueR.by_at {H E w : Int} {r : Ros} {rates by_ : List Int} (h : TrueR H E w r rates by_) {x : Tn} (hx : x ∈ r.ents) : ∃ b, TrueT r rates w x b := by
  obtain ⟨i, hi, rfl⟩ := List.mem_iff_getElem.1 hx
  exact ⟨_, h.ent i hi (by rw [h.bl]; exact hi)⟩
theorem TrueR.entE {H E w : Int} {r : Ros} {rates by_ : List Int} (h : TrueR H E w r rates by_) (hw : 0 ≤ w ∧ w ≤ 10) : entsE r = 0 := by
  unfold entsE
  refine firstNZ_zero fun e he => ?_
  obtain ⟨x, hx, rfl⟩ := List.mem_map.1 he
  obtain ⟨b, hb⟩ := h.by_at hx
  exact (trueT_chk hb hw h.skill).1
theorem TrueR.ro {H E w : Int} {r : Ros} {rates by_ : List Int} (h : TrueR H E w r rates by_) (hH : H ≤ 4) (hE : E ≤ 5) (hw : 0 ≤ w ∧ w ≤ 10) : rosE r = 0 := by
  unfold rosE; rw [if_neg (fun c => c (h.head hH hE))]; exact h.entE hw
/-- Who has these rates is among all. -/
theorem allR_mem {r : Ros} (s : Nat) : ∀ (m : Nat) (x : List Int) (a : Nat) (u : List Int), x.length = 4 → u.length = 4 → a + m ≤ 4 → (∀ i : Nat, i < a → tg u i = tg x i) → (∀ i : Nat, a ≤ i → i < a + m → if s.testBit i then r.mn ≤ tg u i ∧ tg u i ≤ r.mx ∧ tg u i ≠ 0 else tg u i = tg x i) → (∀ i : Nat, a + m ≤ i → tg u i = tg x i) → u ∈ allR r s m x a
  | 0, x, a, u, hx, hu, _, h1, _, h3 => by
    have : u = x := by
      apply List.ext_getElem (by omega)
      intro i g1 g2
      have e := (Nat.lt_or_ge i a).elim (h1 i) (fun g => h3 i (by omega))
      unfold tg at e
      rw [Int.toNat_natCast, List.getD_eq_getElem?_getD, List.getD_eq_getElem?_getD, List.getElem?_eq_getElem g1, List.getElem?_eq_getElem g2] at e
      simpa using e
    rw [this]; simp [allR]
  | m + 1, x, a, u, hx, hu, ha, h1, h2, h3 => by
    have htg : ∀ (n : Int) (i : Nat), tg (setI x a n) i = if i = a then n else tg x i := fun n i => by
      unfold tg setI
      simp only [Int.toNat_natCast, List.getD_eq_getElem?_getD, List.getElem?_set]
      by_cases e : a = i
      · subst e; simp [show a < x.length by omega]
      · rw [if_neg e, if_neg (fun h => e h.symm)]
    have ha2 := h2 a (Nat.le_refl _) (by omega)
    simp only [allR]
    by_cases hs : s.testBit a = true
    · rw [if_pos hs] at ha2
      rw [if_pos hs, List.mem_flatMap]
      refine ⟨(tg u a - r.mn).toNat, List.mem_range.2 (by omega), ?_⟩
      have e : r.mn + ((tg u a - r.mn).toNat : Int) = tg u a := by omega
      rw [e, if_neg ha2.2.2]
      refine allR_mem s m (setI x a (tg u a)) (a + 1) u (by simp [setI, hx]) hu (by omega) (fun i hi => ?_) (fun i g1 g2 => ?_) (fun i hi => ?_)
      · rw [htg]
        by_cases c : i = a
        · rw [if_pos c, c]
        · rw [if_neg c]; exact h1 i (Nat.lt_of_le_of_ne (Nat.le_of_lt_succ hi) c)
      · rw [htg, if_neg (show ¬ i = a by omega)]; exact h2 i (by omega) (by omega)
      · rw [htg, if_neg (show ¬ i = a by omega)]; exact h3 i (by omega)
    · rw [if_neg hs] at ha2
      rw [if_neg hs]
      refine allR_mem s m x (a + 1) u hx hu (by omega) (fun i hi => ?_) (fun i g1 g2 => h2 i (by omega) (by omega)) (fun i hi => h3 i (by omega))
      by_cases c : i = a
      · rw [c]; exact ha2
      · exact h1 i (by omega)
def padR (rates : List Int) : List Int := rates ++ List.replicate (4 - rates.length) 0
theorem padR_tg (rates : List Int) (i : Int) : tg (padR rates) i = tg rates i := by
  unfold tg padR
  simp only [List.getD, List.getElem?_append, List.getElem?_replicate]
  split
  · rfl
  · rename_i h
    rw [List.getElem?_eq_none (by omega)]
    split <;> rfl
/-- What truly was so is a truth; something explains the roster. -/
theorem TrueR.truth {H E w : Int} {r : Ros} {rates by_ : List Int} (h : TrueR H E w r rates by_) (hH : H ≤ 4) (hE : E ≤ 5) (hw : 0 ≤ w ∧ w ≤ 10) : padR rates ∈ htruthsR r (entsL r) (driftN (padR rates)) ∧ driftN (padR rates) < 2 ^ r.hands.toNat := by
  have h1 := h.hands
  have hrl := h.rl
  have hpl : (padR rates).length = 4 := by unfold padR; rw [List.length_append, List.length_replicate]; omega
  have hbig : ∀ i : Nat, rates.length ≤ i → tg (padR rates) i = 0 := fun i hi => by
    rw [padR_tg]; unfold tg; rw [Int.toNat_natCast, List.getD_eq_getElem?_getD, List.getElem?_eq_none hi]; rfl
  have hbit : ∀ i, (driftN (padR rates)).testBit i = (decide (i < 4) && decide (tg (padR rates) i ≠ 0)) := fun i => by unfold driftN; rw [bitsOf_test]
  constructor
  · unfold htruthsR
    rw [List.mem_filter]
    constructor
    · refine allR_mem _ _ _ _ _ rfl hpl (by omega) (fun i hi => by omega) (fun i g1 g2 => ?_) (fun i hi => ?_)
      · have h0 : tg ([0, 0, 0, 0] : List Int) i = 0 := by
          match i with
          | 0 => rfl
          | 1 => rfl
          | 2 => rfl
          | 3 => rfl
          | i + 4 => unfold tg; rw [Int.toNat_natCast]; rfl
        rw [h0, hbit, decide_eq_true (show i < 4 by omega), Bool.true_and]
        by_cases hz : tg (padR rates) i = 0
        · rw [decide_eq_false (fun c => c hz), if_neg (by simp)]; exact hz
        · rw [decide_eq_true hz, if_pos rfl]
          have hlt : i < rates.length := by omega
          have e : tg (padR rates) i = rates[i] := by rw [padR_tg]; unfold tg; rw [Int.toNat_natCast, List.getD_eq_getElem?_getD, List.getElem?_eq_getElem hlt]; rfl
          have := h.rate _ (List.getElem_mem hlt)
          rw [← e] at this
          rcases this with g | g
          · exact absurd g hz
          · exact ⟨g.1, g.2, hz⟩
      · rw [hbig i (by omega)]
        match i with
        | 0 => rfl
        | 1 => rfl
        | 2 => rfl
        | 3 => rfl
        | i + 4 => unfold tg; rw [Int.toNat_natCast]; rfl
    · unfold isB
      rw [List.all_eq_true]
      intro i hi
      have hi' := List.mem_range.1 hi
      have hT := h.ent i hi' (by rw [h.bl]; exact hi')
      have hb := hT.by_in
      rw [List.any_eq_true]
      refine ⟨(by_[i]'(by rw [h.bl]; exact hi')).toNat, List.mem_range.2 (by omega), ?_⟩
      rw [Int.toNat_of_nonneg hb.1]
      obtain ⟨_, d, hd, e1, e2⟩ := trueT_chk hT hw h.skill
      unfold byB
      have hgd : r.ents.getD i default = r.ents[i] := by simp [List.getD, List.getElem?_eq_getElem hi']
      have hgs : (entsL r).getD i [] = (chkE r.ents[i] r.hands).1 := by
        unfold entsL; simp [List.getD, List.getElem?_eq_getElem hi']
      rw [hgd, hgs, if_neg (by rcases hT.hand with g | g <;> omega), List.any_eq_true]
      have ho : offX r (padR rates) (by_[i]'(by rw [h.bl]; exact hi')) r.ents[i].day = offX r rates (by_[i]'(by rw [h.bl]; exact hi')) r.ents[i].day := by unfold offX; rw [padR_tg]
      exact ⟨d, hd, decide_eq_true (by rw [ho]; exact ⟨e1, e2⟩)⟩
  · refine Nat.lt_pow_two_of_testBit _ fun i hi => ?_
    rw [hbit]
    by_cases hz : tg (padR rates) i = 0
    · rw [decide_eq_false (p := tg (padR rates) i ≠ 0) (fun c => c hz), Bool.and_false]
    · exact absurd (hbig i (by omega)) hz
theorem TrueR.expl {H E w : Int} {r : Ros} {rates by_ : List Int} (h : TrueR H E w r rates by_) (hH : H ≤ 4) (hE : E ≤ 5) (hw : 0 ≤ w ∧ w ≤ 10) : explR r (entsL r) ≠ [] := by
  obtain ⟨t1, t2⟩ := h.truth hH hE hw
  have hhd := Ros.head_of (h.head hH hE)
  intro e
  rcases explR_spec r (entsL r) with ⟨_, g⟩ | ⟨m, _, g1, g2, _⟩
  · have hle : popN (driftN (padR rates)) ≤ r.hands.toNat := by
      have h4 := hhd.hands
      have hp : ∀ n s, s < 2 ^ n → popN s ≤ n := by
        intro n
        induction n with
        | zero => intro s hs; have : s = 0 := by simpa using hs
                  subst this; rw [popN_zero]; omega
        | succ n ih =>
          intro s hs
          rw [popN_step]
          have := ih (s / 2) (by rw [Nat.pow_succ] at hs; omega)
          omega
      exact hp _ _ t2
    have := g _ hle
    have hm := (foundR_mem hhd (m := popN (driftN (padR rates)))).2 ⟨_, t2, rfl, t1⟩
    rw [this] at hm; simp at hm
  · rw [g1] at e; exact g2 (addX_nil.1 e)
theorem TrueR.known {H E w : Int} {r : Ros} {rates by_ : List Int} (h : TrueR H E w r rates by_) (hH : H ≤ 4) (hE : E ≤ 5) (hw : 0 ≤ w ∧ w ≤ 10) {ws : List Int} (hz : firstNZ ws = 0) : knownE r ws = 0 := by
  unfold knownE
  rw [if_neg (fun c => c (h.ro hH hE hw)), if_neg (fun c => c hz), if_neg (h.expl hH hE hw)]
end Go.Proofs
set_option linter.unusedSimpArgs false
set_option linter.unusedVariables false
set_option maxRecDepth 100000
namespace Go.Proofs
open Go Go.Mu
variable {S : MC Tryz.prog}

/-- One round of a loop. -/
theorem ARun.once {E : Env} (hE : EnvOK E) {ro : Option Nat} {c : Code} {k : List Item} {kp : Nat → Bool} {tm sl : List (Nat × AV)} {σ : List AObj} {Q : Post}
    (hO : todoOK E (.code c :: .inLoop c :: k) = true) (h : ev E ro 100000 (.code c :: .inLoop c :: k) ⟨kp, [], sl⟩ σ Q) : ARun E ro (.code (.loop c) :: k) ⟨kp, tm, sl⟩ σ Q :=
  ARun.anew (fr := ⟨kp, tm, sl⟩) (.loop (ev_sound hE hO h))
theorem same_step {α : Type} [DecidableEq α] {a b : List α} {i : Nat} (hl : a.length = b.length) (h : i < a.length) (ht : a.take i = b.take i) : (a.take (i + 1) = b.take (i + 1)) ↔ a[i] = b[i]'(by omega) := by
  have ta := List.take_succ_eq_append_getElem h
  have tb := List.take_succ_eq_append_getElem (l := b) (i := i) (by omega)
  rw [ta, tb, ht]
  simp only [List.append_cancel_left_eq, List.cons.injEq, and_true]
theorem sameInts_p (a b : List Int) (hl : a.length ≤ 4294967296) (hl2 : b.length ≤ 4294967296) : PureV S 51 [.list .no 1 (a.map (.int .i64)), .list .no 1 (b.map (.int .i64))] (.bool (decide (a = b))) := by
  refine PureV.of_ev (E := Tryz.E (S := S) 31 Tryz.ord51 fs0) (Tryz.envOK (S := S) 31 Tryz.ord51 fs0 fs0_ok) (.bool) Tryz.kp51 Tryz.func51 rfl (by kernel_rfl) (by simp [Tryz.E]) (Callable.of Tryz.func51 (by kernel_rfl) (by kernel_rfl)) (by kernel_rfl) ?_
  intro σ
  by_cases hlen : a.length = b.length
  · have hz : ((a.length : Int) = b.length) := by omega
    simp -implicitDefEqProofs (maxSteps := 2000000) (disch := omega) only [go_sem, simprocAttr]
    refine ARun.loopJ (Tryz.envOK (S := S) 31 Tryz.ord51 fs0 fs0_ok) (α := Nat × Bool) (fun p => a.length - p.1) (fun p τ => τ = σ ∧ p.1 ≤ a.length ∧ p.2 = decide (a.take p.1 = b.take p.1)) (fun p => [(5, .bool p.2), (6, .int .i64 p.1)]) (0, true) (by kernel_rfl) (by simp [upd, ins, subF, lookA]) ⟨rfl, Nat.zero_le _, by simp⟩ ?_
    rintro ⟨i, c⟩ τ ⟨rfl, hi, hc⟩ ih
    simp only at hi hc ih
    cases c
    · simp -implicitDefEqProofs (maxSteps := 2000000) (disch := omega) only [go_sem, simprocAttr]
      have : ¬ a = b := fun e => by subst e; simp at hc
      simp [this]
    · have htk : a.take i = b.take i := by simpa using hc
      by_cases hlt : i < a.length
      · have hst := same_step hlen hlt htk
        have hia : idx (a.map (AV.int .i64)) (i : Int) = some (.int .i64 a[i]) := idx_nat hlt
        have hib : idx (b.map (AV.int .i64)) (i : Int) = some (.int .i64 (b[i]'(by omega))) := idx_nat (by omega)
        generalize a[i] = x at hst hia
        generalize b[i]'(by omega) = y at hst hib
        clear hc htk
        simp -implicitDefEqProofs (maxSteps := 2000000) (disch := omega) only [go_sem, simprocAttr, hia, hib]
        refine ⟨fun h => (ih (i + 1, true) _ (by simp only; omega) ⟨rfl, by simp only; omega, ?_⟩).castS rfl (by simp [upd, ins, subF, lookA]), fun h => (ih (i + 1, false) _ (by simp only; omega) ⟨rfl, by simp only; omega, ?_⟩).castS rfl (by simp [upd, ins, subF, lookA])⟩
        · simp [hst, h]
        · simp [hst, h]
      · have : i = a.length := by omega
        subst this
        simp -implicitDefEqProofs (maxSteps := 2000000) (disch := omega) only [go_sem, simprocAttr]
        have : a = b := by rwa [List.take_length, hlen, List.take_length] at htk
        simp [this]
  · have hz : ¬ ((a.length : Int) = b.length) := by omega
    have : ¬ a = b := fun e => hlen (by rw [e])
    simp -implicitDefEqProofs (maxSteps := 2000000) (disch := omega) only [go_sem, simprocAttr]
    refine ARun.once (Tryz.envOK (S := S) 31 Tryz.ord51 fs0 fs0_ok) (by kernel_rfl) ?_
    simp -implicitDefEqProofs (maxSteps := 2000000) (disch := omega) only [go_sem, simprocAttr]
    simp [this]
def sameInts_s := spec2 tIs tIs fun a b => if a.length ≤ 4294967296 ∧ b.length ≤ 4294967296 then some (.bool (decide (a = b))) else none
theorem sameInts_ok : ∀ xs v, sameInts_s xs = some v → PureV S 51 xs v :=
  spec2_ok fun a b v h => by have h := someIf h; rw [← h.2]; exact sameInts_p a b h.1.1 h.1.2
end Go.Proofs
set_option linter.unusedSimpArgs false
set_option linter.unusedVariables false
set_option maxRecDepth 100000
namespace Go.Proofs
open Go Go.Mu Go.Ins
variable {S : MC Tryz.prog}

theorem hto_p (a b : Int) : PureV S 60 [.int .i64 a, .int .i64 b] (Rng.mk a b).av := by
  refine PureV.of_ev (E := Tryz.E (S := S) 8 (fun _ => ([], [])) fs0) (Tryz.envOK (S := S) 8 (fun _ => ([], [])) fs0 fs0_ok) (Rng.plain _) Tryz.kp60 Tryz.func60 rfl (by kernel_rfl) (by simp [Tryz.E]) (Callable.of Tryz.func60 (by kernel_rfl) (by kernel_rfl)) (by kernel_rfl) ?_
  intro σ
  simp -implicitDefEqProofs (maxSteps := 2000000) (disch := omega) only [go_sem, simprocAttr, Rng.av]
def hto_s := spec2 tI tI fun a b => some (Rng.mk a b).av
theorem hto_ok : ∀ xs v, hto_s xs = some v → PureV S 60 xs v :=
  spec2_ok fun a b v h => by simp only [Option.some.injEq] at h; rw [← h]; exact hto_p a b
def fs408 (f : FuncId) (xs : List AV) : Option AV := if f = 60 then hto_s xs else if f = 51 then sameInts_s xs else fs407 f xs
theorem fs408_ok {S : MC Tryz.prog} : ∀ f xs v, fs408 f xs = some v → PureV S f xs v := by
  intro f xs v h
  unfold fs408 at h
  split at h
  · rename_i e; subst e; exact hto_ok _ _ h
  split at h
  · rename_i e; subst e; exact sameInts_ok _ _ h
  exact fs407_ok _ _ _ h
attribute [go_sem] fs408 hto_s sameInts_s
theorem htuned_p (d b due lo hi : Int) : PureV S 63 [.int .i64 d, .int .i64 b, .int .i64 due, .int .i64 lo, .int .i64 hi] (tnd d b due lo hi).av := by
  refine PureV.of_ev (E := Tryz.E (S := S) 20 (fun _ => ([], [])) fs408) (Tryz.envOK (S := S) 20 (fun _ => ([], [])) fs408 fs408_ok) ((Plain.agg (Tn.plains _))) Tryz.kp63 Tryz.func63 rfl (by kernel_rfl) (by simp [Tryz.E]) (Callable.of Tryz.func63 (by kernel_rfl) (by kernel_rfl)) (by kernel_rfl) ?_
  intro σ
  simp -implicitDefEqProofs (maxSteps := 2000000) (disch := omega) only [go_sem, simprocAttr, Rng.av, Tn.av, Tn.cells, tnd]
theorem shop_p : PureV S 91 [] shopR.av := by
  refine PureV.of_ev (E := Tryz.E (S := S) 7 (fun _ => ([], [])) fs408) (Tryz.envOK (S := S) 7 (fun _ => ([], [])) fs408 fs408_ok) (Ros.plain _) Tryz.kp91 Tryz.func91 rfl (by kernel_rfl) (by simp [Tryz.E]) (Callable.of Tryz.func91 (by kernel_rfl) (by kernel_rfl)) (by kernel_rfl) ?_
  intro σ
  simp -implicitDefEqProofs (maxSteps := 2000000) (disch := omega) only [go_sem, simprocAttr, Rng.av]
  refine htuned_p _ _ _ _ _ _ _ ?_
  simp -implicitDefEqProofs (maxSteps := 2000000) (disch := omega) only [go_sem, simprocAttr, Rng.av]
  refine htuned_p _ _ _ _ _ _ _ ?_
  simp -implicitDefEqProofs (maxSteps := 2000000) (disch := omega) only [go_sem, simprocAttr, Rng.av]
  refine htuned_p _ _ _ _ _ _ _ ?_
  simp only [Tn.av, Tn.cells, tnd, List.map_cons, List.map_nil, Rng.av]
  simp -implicitDefEqProofs (maxSteps := 2000000) (disch := omega) only [go_sem, simprocAttr, Rng.av, Ros.av, shopR, Tn.av, Tn.cells, tnd]
theorem lone_p : PureV S 90 [] loneR.av := by
  refine PureV.of_ev (E := Tryz.E (S := S) 7 (fun _ => ([], [])) fs408) (Tryz.envOK (S := S) 7 (fun _ => ([], [])) fs408 fs408_ok) (Ros.plain _) Tryz.kp90 Tryz.func90 rfl (by kernel_rfl) (by simp [Tryz.E]) (Callable.of Tryz.func90 (by kernel_rfl) (by kernel_rfl)) (by kernel_rfl) ?_
  intro σ
  simp -implicitDefEqProofs (maxSteps := 2000000) (disch := omega) only [go_sem, simprocAttr, Rng.av]
  refine shop_p _ _ ?_
  simp only [Ros.av]
  simp -implicitDefEqProofs (maxSteps := 2000000) (disch := omega) only [go_sem, simprocAttr, Rng.av]
  refine htuned_p _ _ _ _ _ _ _ ?_
  simp only [Tn.av, Tn.cells, tnd, List.map_cons, List.map_nil, Rng.av]
  simp -implicitDefEqProofs (maxSteps := 2000000) (disch := omega) only [go_sem, simprocAttr, Rng.av, Ros.av, shopR, loneR, Tn.av, Tn.cells, tnd]
theorem hsameLists_p (a b : List (List Int)) (hl : a.length ≤ 4294967296) (hl2 : b.length ≤ 4294967296) (ha : ∀ x ∈ a, x.length ≤ 4294967296) (hb : ∀ x ∈ b, x.length ≤ 4294967296) : PureV S 50 [.list .no 1 (a.map ints1), .list .no 1 (b.map ints1)] (.bool (decide (a = b))) := by
  refine PureV.of_ev (E := Tryz.E (S := S) 31 Tryz.ord50 fs408) (Tryz.envOK (S := S) 31 Tryz.ord50 fs408 fs408_ok) (.bool) Tryz.kp50 Tryz.func50 rfl (by kernel_rfl) (by simp [Tryz.E]) (Callable.of Tryz.func50 (by kernel_rfl) (by kernel_rfl)) (by kernel_rfl) ?_
  intro σ
  by_cases hlen : a.length = b.length
  · have hz : ((a.length : Int) = b.length) := by omega
    simp -implicitDefEqProofs (maxSteps := 2000000) (disch := omega) only [go_sem, simprocAttr]
    refine ARun.loopJ (Tryz.envOK (S := S) 31 Tryz.ord50 fs408 fs408_ok) (α := Nat × Bool) (fun p => a.length - p.1) (fun p τ => τ = σ ∧ p.1 ≤ a.length ∧ p.2 = decide (a.take p.1 = b.take p.1)) (fun p => [(5, .bool p.2), (6, .int .i64 p.1)]) (0, true) (by kernel_rfl) (by simp [upd, ins, subF, lookA]) ⟨rfl, Nat.zero_le _, by simp⟩ ?_
    rintro ⟨i, c⟩ τ ⟨rfl, hi, hc⟩ ih
    simp only at hi hc ih
    cases c
    · simp -implicitDefEqProofs (maxSteps := 2000000) (disch := omega) only [go_sem, simprocAttr]
      have : ¬ a = b := fun e => by subst e; simp at hc
      simp [this]
    · have htk : a.take i = b.take i := by simpa using hc
      by_cases hlt : i < a.length
      · have hst := same_step hlen hlt htk
        have hia : idx (a.map ints1) (i : Int) = some (ints1 a[i]) := idx_nat hlt
        have hib : idx (b.map ints1) (i : Int) = some (ints1 (b[i]'(by omega))) := idx_nat (by omega)
        have hxl := ha _ (List.getElem_mem hlt)
        have hyl := hb _ (List.getElem_mem (show i < b.length by omega))
        generalize a[i] = x at hst hia hxl
        generalize b[i]'(by omega) = y at hst hib hyl
        clear hc htk
        simp -implicitDefEqProofs (maxSteps := 2000000) (disch := omega) only [go_sem, simprocAttr, hia, hib, ints1]
        refine ⟨fun h => (ih (i + 1, true) _ (by simp only; omega) ⟨rfl, by simp only; omega, ?_⟩).castS rfl (by simp [upd, ins, subF, lookA]), fun h => (ih (i + 1, false) _ (by simp only; omega) ⟨rfl, by simp only; omega, ?_⟩).castS rfl (by simp [upd, ins, subF, lookA])⟩
        · simp [hst, h]
        · simp [hst, h]
      · have : i = a.length := by omega
        subst this
        simp -implicitDefEqProofs (maxSteps := 2000000) (disch := omega) only [go_sem, simprocAttr]
        have : a = b := by rwa [List.take_length, hlen, List.take_length] at htk
        simp [this]
  · have hz : ¬ ((a.length : Int) = b.length) := by omega
    have : ¬ a = b := fun e => hlen (by rw [e])
    simp -implicitDefEqProofs (maxSteps := 2000000) (disch := omega) only [go_sem, simprocAttr]
    refine ARun.once (Tryz.envOK (S := S) 31 Tryz.ord50 fs408 fs408_ok) (by kernel_rfl) ?_
    simp -implicitDefEqProofs (maxSteps := 2000000) (disch := omega) only [go_sem, simprocAttr]
    simp [this]
end Go.Proofs
set_option linter.unusedSimpArgs false
set_option linter.unusedVariables false
set_option maxRecDepth 100000
namespace Go.Proofs
open Go Go.Mu Go.Ins

def Tryz.ordSt : Nat → List Nat × List (Nat × List Nat)
  | 6 => ([0, 1, 3, 7, 15, 31, 63, 127, 255, 511, 1023, 2047, 4095, 8191, 16383, 32767, 65535, 131071, 262143, 524287, 1048575, 2097151, 4194303, 8388607, 8388607, 33554431, 67108863, 134217727, 268435455, 268435455, 268435455, 1879048191, 4294967295, 8589934591, 17179869183, 34359738367, 34359738367, 137438953471, 274877906943, 549755813887, 1099511627775, 1099511627775, 4398046511103, 8796093022207, 17592186044415], [(0, []), (1, []), (2, []), (3, []), (4, []), (5, []), (6, []), (7, []), (8, []), (9, []), (10, []), (11, []), (12, []), (13, []), (14, []), (15, []), (16, []), (17, []), (18, []), (19, []), (20, []), (21, []), (22, []), (23, []), (24, [24]), (25, []), (26, []), (27, []), (28, []), (29, []), (30, []), (31, []), (32, []), (33, []), (34, []), (35, []), (36, []), (37, [37]), (38, []), (39, []), (40, []), (41, []), (42, [42]), (43, []), (44, [])])
  | _ => ([], [])
theorem Tryz.ordSt_6 : Tryz.ordSt 6 = ([0, 1, 3, 7, 15, 31, 63, 127, 255, 511, 1023, 2047, 4095, 8191, 16383, 32767, 65535, 131071, 262143, 524287, 1048575, 2097151, 4194303, 8388607, 8388607, 33554431, 67108863, 134217727, 268435455, 268435455, 268435455, 1879048191, 4294967295, 8589934591, 17179869183, 34359738367, 34359738367, 137438953471, 274877906943, 549755813887, 1099511627775, 1099511627775, 4398046511103, 8796093022207, 17592186044415], [(0, []), (1, []), (2, []), (3, []), (4, []), (5, []), (6, []), (7, []), (8, []), (9, []), (10, []), (11, []), (12, []), (13, []), (14, []), (15, []), (16, []), (17, []), (18, []), (19, []), (20, []), (21, []), (22, []), (23, []), (24, [24]), (25, []), (26, []), (27, []), (28, []), (29, []), (30, []), (31, []), (32, []), (33, []), (34, []), (35, []), (36, []), (37, [37]), (38, []), (39, []), (40, []), (41, []), (42, [42]), (43, []), (44, [])]) := rfl
attribute [go_sem] Tryz.ordSt_6
theorem shop_fit : shopR.Fit := ⟨by decide, by decide, by decide +kernel⟩
theorem lone_fit : loneR.Fit := ⟨by decide, by decide, by decide +kernel⟩
set_option maxHeartbeats 4000000 in
theorem steady_p : PureV SBes 26 [] (.bool true) := by
  refine PureV.of_ev (E := Tryz.E (S := SBes) 80 Tryz.ordSt fs408) (Tryz.envOK (S := SBes) 80 Tryz.ordSt fs408 fs408_ok) (.bool) Tryz.kp26 Tryz.func26 rfl (by kernel_rfl) (by simp [Tryz.E]) (Callable.of Tryz.func26 (by kernel_rfl) (by kernel_rfl)) (by kernel_rfl) ?_
  intro σ
  simp -implicitDefEqProofs (maxSteps := 2000000) (disch := omega) only [go_sem, simprocAttr]
  refine lone_p _ _ ?_
  simp -implicitDefEqProofs (maxSteps := 2000000) (disch := omega) only [go_sem, simprocAttr]
  refine fewest_p loneR lone_fit _ _ ?_
  rw [lone_few, lone_k rfl]
  simp -implicitDefEqProofs (maxSteps := 2000000) (disch := omega) only [go_sem, simprocAttr]
  refine shop_p _ _ ?_
  simp -implicitDefEqProofs (maxSteps := 2000000) (disch := omega) only [go_sem, simprocAttr]
  refine convicts_p shopR shop_fit _ _ ?_
  rw [shop_conv, shop_k rfl]
  simp -implicitDefEqProofs (maxSteps := 2000000) (disch := omega) only [go_sem, simprocAttr]
  refine shop_p _ _ ?_
  simp -implicitDefEqProofs (maxSteps := 2000000) (disch := omega) only [go_sem, simprocAttr]
  refine ratesS_p shopR shop_fit 0 shop_rE (by rw [shop_rof]; decide) (by rw [shop_rof]; decide) _ _ ?_
  rw [shop_rL]
  simp -implicitDefEqProofs (maxSteps := 2000000) (disch := omega) only [go_sem, simprocAttr]
  refine shop_p _ _ ?_
  simp -implicitDefEqProofs (maxSteps := 2000000) (disch := omega) only [go_sem, simprocAttr]
  refine test_p shopR shop_fit 0 10 44000 _ _ ?_
  rw [shop_tE, shop_tL]
  simp -implicitDefEqProofs (maxSteps := 2000000) (disch := omega) only [go_sem, simprocAttr]
  refine shop_p _ _ ?_
  simp -implicitDefEqProofs (maxSteps := 2000000) (disch := omega) only [go_sem, simprocAttr]
  refine trusted_p shopR shop_fit 0 5 (by decide) _ _ ?_
  rw [shop_uE, shop_uL]
  simp -implicitDefEqProofs (maxSteps := 2000000) (disch := omega) only [go_sem, simprocAttr, Rng.av, ints1]
  refine ACalls.weaken (l' := [.list .no 1 ([[0], [1]].map ints1), .list .no 1 ([[0], [1]].map ints1)]) ⟨⟨rfl, .inl rfl, .inl rfl⟩, ⟨rfl, .inl rfl, .inl rfl⟩, trivial⟩ (hsameLists_p [[0], [1]] [[0], [1]] (by decide) (by decide) (by decide) (by decide) _ _ ?_)
  rw [decide_eq_true rfl]
  simp -implicitDefEqProofs (maxSteps := 2000000) (disch := omega) only [go_sem, simprocAttr, Rng.av, ints1]
end Go.Proofs
set_option linter.unusedSimpArgs false
set_option linter.unusedVariables false
set_option maxRecDepth 100000
namespace Go.Proofs
open Go Go.Mu Go.Ins

theorem TrueR.fit {H E w : Int} {r : Ros} {rates by_ : List Int} (h : TrueR H E w r rates by_) (hE : E ≤ 5) : r.Fit := by
  have h1 := h.sl
  have h2 := h.el
  refine ⟨by omega, by omega, fun x hx => ?_⟩
  obtain ⟨b, hb⟩ := h.by_at hx
  obtain ⟨t, lo, hi, rds, _, _, g3, g4⟩ := hb.ear
  rw [g4]
  rcases g3 with rfl | rfl <;> simp
/-- Whether the errors of a hand on a day are within a limit. -/
def okD (r : Ros) (L : List (List Int)) (h lim d : Int) : Prop := -lim ≤ (errsL r L h d).1 ∧ (errsL r L h d).2 ≤ lim
theorem trustF_spec {r : Ros} {L : List (List Int)} {h lim : Int} : ∀ (n : Nat) (d : Int), d ≤ 60 → (60 - d).toNat ≤ n → d ≤ trustF r L h lim n d ∧ trustF r L h lim n d ≤ 60 ∧ (∀ e, d < e → e ≤ trustF r L h lim n d → okD r L h lim e) ∧ (trustF r L h lim n d < 60 → ¬ okD r L h lim (trustF r L h lim n d + 1))
  | 0, d, h1, h2 => by
    have : d = 60 := by omega
    subst this
    simp only [trustF]
    exact ⟨Int.le_refl _, Int.le_refl _, fun e g1 g2 => by omega, fun g => by omega⟩
  | n + 1, d, h1, h2 => by
    by_cases hd : d < 60
    · by_cases hc : (errsL r L h (d + 1)).1 < -lim ∨ lim < (errsL r L h (d + 1)).2
      · have e : trustF r L h lim (n + 1) d = d := by simp only [trustF, if_pos hd, if_pos hc]
        rw [e]
        exact ⟨Int.le_refl _, h1, fun e g1 g2 => by omega, fun _ hk => by unfold okD at hk; omega⟩
      · have e : trustF r L h lim (n + 1) d = trustF r L h lim n (d + 1) := by simp only [trustF, if_pos hd, if_neg hc]
        rw [e]
        obtain ⟨i1, i2, i3, i4⟩ := trustF_spec (r := r) (L := L) (h := h) (lim := lim) n (d + 1) (by omega) (by omega)
        refine ⟨by omega, i2, fun x g1 g2 => ?_, i4⟩
        by_cases c : x = d + 1
        · subst c; unfold okD; omega
        · exact i3 x (by omega) g2
    · have : d = 60 := by omega
      subst this
      have e : trustF r L h lim (n + 1) 60 = 60 := by simp only [trustF, if_neg hd]
      rw [e]
      exact ⟨Int.le_refl _, Int.le_refl _, fun e g1 g2 => by omega, fun g => by omega⟩
theorem trustF_mono {r : Ros} {L : List (List Int)} {h lim lim' : Int} (hl : lim ≤ lim') {d : Int} (hd : d ≤ 60) (h0 : 0 ≤ d) : trustF r L h lim 60 d ≤ trustF r L h lim' 60 d := by
  obtain ⟨a1, a2, a3, a4⟩ := trustF_spec (r := r) (L := L) (h := h) (lim := lim) 60 d hd (by omega)
  obtain ⟨b1, b2, b3, b4⟩ := trustF_spec (r := r) (L := L) (h := h) (lim := lim') 60 d hd (by omega)
  refine Classical.byContradiction fun hc => ?_
  have := a3 (trustF r L h lim' 60 d + 1) (by omega) (by omega)
  exact b4 (by omega) (by unfold okD at this ⊢; omega)
theorem fromL_stable {l : List Sg} {h : Int} : ∀ (m e : Int), 0 ≤ m → (∀ s ∈ l, 0 ≤ s.day ∧ s.day ≤ 60) → l.foldl (setF h 60) m ≤ e → l.foldl (setF h e) m = l.foldl (setF h 60) m := by
  induction l with
  | nil => intro m e _ _ _; rfl
  | cons s l ih =>
    intro m e hm hl he
    have hs := hl s (by simp)
    have mono : ∀ (l : List Sg) (m : Int), m ≤ l.foldl (setF h 60) m := by
      intro l
      induction l with
      | nil => intro m; exact Int.le_refl _
      | cons s l ih2 =>
        intro m
        refine Int.le_trans ?_ (ih2 _)
        unfold setF; (repeat' split) <;> omega
    have hm2 := mono l (setF h 60 m s)
    rw [List.foldl_cons] at he
    have hm3 : setF h 60 m s ≤ e := Int.le_trans hm2 he
    have e1 : setF h e m s = setF h 60 m s := by
      unfold setF at hm3 ⊢
      by_cases c : s.hand = h
      · rw [if_pos (show s.hand = h ∧ s.day ≤ 60 from ⟨c, hs.2⟩)] at hm3 ⊢
        have hde : s.day ≤ e := by
          refine Int.le_trans ?_ hm3
          split <;> omega
        rw [if_pos ⟨c, hde⟩]
      · rw [if_neg (fun g => c g.1), if_neg (fun g => c g.1)]
    rw [List.foldl_cons, List.foldl_cons, e1]
    refine ih _ e ?_ (fun s hs => hl s (by simp [hs])) he
    unfold setF; (repeat' split) <;> omega
theorem errsL_zero {r : Ros} {L : List (List Int)} {h d : Int} (hz : ∀ x ∈ L, offX r x h d = 0) (hne : L ≠ []) : errsL r L h d = (0, 0) := by
  have key : ∀ (M : List (List Int)), (∀ x ∈ M, offX r x h d = 0) → M.foldl (errF fun x => offX r x h d) (0, 0) = (0, 0) := by
    intro M
    induction M with
    | nil => intro _; rfl
    | cons x M ih =>
      intro hM
      rw [List.foldl_cons]
      have : errF (fun x => offX r x h d) (0, 0) x = (0, 0) := by unfold errF; simp only [hM x (by simp)]; rfl
      rw [this]
      exact ih fun y hy => hM y (by simp [hy])
  cases L with
  | nil => exact absurd rfl hne
  | cons x L =>
    unfold errsL
    rw [List.foldl_cons]
    have : errF (fun x => offX r x h d) (100000, -100000) x = (0, 0) := by unfold errF; simp only [hz x (by simp)]; rfl
    rw [this]
    exact key L fun y hy => hz y (by simp [hy])
theorem okD_from {r : Ros} {L : List (List Int)} {h lim : Int} (hs : ∀ s ∈ r.sets, 0 ≤ s.day ∧ s.day ≤ 60) (hne : L ≠ []) (hl : 0 ≤ lim) : okD r L h lim (fromL r.sets h 60) := by
  have : errsL r L h (fromL r.sets h 60) = (0, 0) := errsL_zero (fun x _ => by
    unfold offX
    have e : fromL r.sets h (fromL r.sets h 60) = fromL r.sets h 60 := fromL_stable 0 _ (Int.le_refl 0) hs (Int.le_refl _)
    rw [e, Int.sub_self, Int.mul_zero]) hne
  unfold okD
  rw [this]
  simp only
  omega
set_option maxHeartbeats 8000000 in
theorem handTrusted_c (l : List Int) (hl : l.length ≤ 4294967296) (σ : List AObj) : ACalls SBes 5 [.list .no 1 (l.map (.int .i64))] σ fun v _ => v = .bool true := by
  refine ACalls.of_ev (E := Tryz.E (S := SBes) 129 (fun _ => ([], [])) fs408) (Tryz.envOK (S := SBes) 129 (fun _ => ([], [])) fs408 fs408_ok) Tryz.kp5 Tryz.func5 rfl (by kernel_rfl) (by simp [Tryz.E]) (Callable.of Tryz.func5 (by kernel_rfl) (by kernel_rfl)) (by kernel_rfl) ?_
  simp -implicitDefEqProofs (maxSteps := 2000000) (disch := omega) only [go_sem, simprocAttr]
  refine newPot_c l .no hl σ _ fun s1 j1 => ?_
  obtain ⟨τ, hτ⟩ : ∃ τ, τ = σ ++ (AObj.cells [.int .u64 s1] :: j1) := ⟨_, rfl⟩
  have hp : PotAt τ σ.length := ⟨s1, by rw [hτ]; exact hget_at0⟩
  rw [← hτ]
  obtain ⟨p, hpe⟩ : ∃ p, p = σ.length := ⟨_, rfl⟩
  rw [← hpe] at hp ⊢
  clear hτ hpe
  have hpl := hp.lt1
  simp -implicitDefEqProofs (maxSteps := 2000000) (disch := omega) only [go_sem, simprocAttr]
  refine rosterOf_c p 3 4 3 (by omega) (by omega) (by omega) τ hp _ fun s2 r rates by_ j2 hT => ?_
  have hfit := hT.fit (by omega)
  have hhd := Ros.head_of (hT.head (by omega) (by omega))
  have hkn : ∀ ws, firstNZ ws = 0 → knownE r ws = 0 := fun ws => hT.known (by omega) (by omega) (by omega)
  have hex := hT.expl (by omega) (by omega) (by omega)
  have hh := hT.hands
  have hset := hT.set
  have hsl := hT.sl
  clear hT
  simp only [Ros.av, truAV, ints1]
  have hwh : IntKind.i64.wrap (r.hands - 1) = r.hands - 1 := wrap64 (by omega) (by omega)
  simp -implicitDefEqProofs (maxSteps := 2000000) (disch := omega) only [go_sem, simprocAttr, hlength_pw, hhget_pw0, hhget_pw, hhset_pw0, hhset_pw, hwh]
  refine upto_c p (r.hands - 1) (by omega) _ (hp.pw _).app1 _ fun s3 who w1 w2 => ?_
  rw [hpw_pwa hpl]
  have hwho : 0 ≤ who ∧ who < r.hands := by omega
  clear w1 w2
  simp -implicitDefEqProofs (maxSteps := 2000000) (disch := omega) only [go_sem, simprocAttr, hlength_pw, hhget_pw0, hhget_pw, hhset_pw0, hhset_pw, hwh]
  refine upto_c p 9 (by omega) _ (hp.pw _).app1 _ fun s4 x x1 x2 => ?_
  rw [hpw_pwa hpl]
  simp -implicitDefEqProofs (maxSteps := 2000000) (disch := omega) only [go_sem, simprocAttr, hlength_pw, hhget_pw0, hhget_pw, hhset_pw0, hhset_pw, hwh]
  refine upto_c p 60 (by omega) _ (hp.pw _).app1 _ fun s5 y y1 y2 => ?_
  rw [hpw_pwa hpl]
  simp -implicitDefEqProofs (maxSteps := 2000000) (disch := omega) only [go_sem, simprocAttr, hlength_pw, hhget_pw0, hhget_pw, hhset_pw0, hhset_pw, hwh]
  refine of_c p [0, x, y] .full (by simp) _ (hp.pw _).app1 _ fun s6 lim hlim => ?_
  rw [hpw_pwa hpl]
  have hli : 0 ≤ lim ∧ lim ≤ 60 := by simp at hlim; omega
  clear x1 x2 y1 y2 hlim
  simp -implicitDefEqProofs (maxSteps := 2000000) (disch := omega) only [go_sem, simprocAttr, hlength_pw, hhget_pw0, hhget_pw, hhset_pw0, hhset_pw, hwh]
  have hr1 : hget (pw τ p s6 ++ (j2 ++ [AObj.cells [.int .i64 r.hands, .int .i64 r.skill, .int .i64 r.mn, .int .i64 r.mx, .list .no 2 (r.sets.map Sg.av), .list .no 6 (r.ents.map Tn.av)], AObj.cells [.list .no 1 (rates.map (.int .i64)), .list .no 1 (by_.map (.int .i64))]])) (τ.length + j2.length) = some (.cells [.int .i64 r.hands, .int .i64 r.skill, .int .i64 r.mn, .int .i64 r.mx, .list .no 2 (r.sets.map Sg.av), .list .no 6 (r.ents.map Tn.av)]) := by rw [hhget_pw]; simp
  generalize pw τ p s6 ++ (j2 ++ [AObj.cells [.int .i64 r.hands, .int .i64 r.skill, .int .i64 r.mn, .int .i64 r.mx, .list .no 2 (r.sets.map Sg.av), .list .no 6 (r.ents.map Tn.av)], AObj.cells [.list .no 1 (rates.map (.int .i64)), .list .no 1 (by_.map (.int .i64))]]) = σ1 at hr1 ⊢
  generalize τ.length + j2.length = k at hr1 ⊢
  have hs60 : ∀ s ∈ r.sets, 0 ≤ s.day ∧ s.day ≤ 60 := fun s hs => by have := hset s hs; omega
  refine ARun.forS (Tryz.envOK (S := SBes) 129 (fun _ => ([], [])) fs408 fs408_ok) r.sets.length (fun _ => True) (fun i => [(8, .int .i64 ((r.sets.take i).foldl (setF who 60) 0)), (9, .int .i64 i)]) (fun _ _ => σ1) [] (by kernel_rfl) rfl (by simp [upd, ins, subF, lookA]) trivial ?_ ?_
  · intro i j hi _ ih
    rw [take_foldl hi] at ih
    have hd60 := hs60 _ (List.getElem_mem hi)
    have hse : ∀ m, setF who 60 m r.sets[i] = if r.sets[i].hand = who then (if m < r.sets[i].day then r.sets[i].day else m) else m := fun m => by
      unfold setF
      by_cases c : r.sets[i].hand = who
      · rw [if_pos ⟨c, hd60.2⟩, if_pos c]
      · rw [if_neg (fun g => c g.1), if_neg c]
    rw [hse] at ih
    have hidx : idx (r.sets.map Sg.av) (i : Int) = some (Sg.av r.sets[i]) := idx_nat hi
    generalize (r.sets.take i).foldl (setF who 60) 0 = m at *
    generalize r.sets[i] = s at hidx ih
    simp only [Sg.av] at hidx
    by_cases c : s.hand = who
    · rw [if_pos c] at ih
      have c' : (s.hand = who) = True := eq_true c
      simp -implicitDefEqProofs (maxSteps := 2000000) (disch := omega) only [go_sem, simprocAttr, hr1, hidx, c']
      exact (ih trivial []).castS rfl (by simp [upd, ins, subF, lookA])
    · rw [if_neg c] at ih
      have c' : (s.hand = who) = False := eq_false c
      simp -implicitDefEqProofs (maxSteps := 2000000) (disch := omega) only [go_sem, simprocAttr, hr1, hidx, c']
      exact (ih trivial []).castS rfl (by simp [upd, ins, subF, lookA])
  · intro j _
    rw [List.take_length]
    have hfi := @fromL_in r.sets who 60 (by decide)
    have hfe : r.sets.foldl (setF who 60) 0 = fromL r.sets who 60 := rfl
    rw [hfe]
    have hwl : IntKind.i64.wrap (lim + 1) = lim + 1 := wrap64 (by omega) (by omega)
    simp -implicitDefEqProofs (maxSteps := 2000000) (disch := omega) only [go_sem, simprocAttr, hr1]
    refine trusted_p r hfit who lim (by omega) _ _ ?_
    simp -implicitDefEqProofs (maxSteps := 2000000) (disch := omega) only [go_sem, simprocAttr, hr1, hwl]
    refine trusted_p r hfit who (lim + 1) (by omega) _ _ ?_
    have hih : isHandE r.hands who = 0 := by unfold isHandE; rw [hwh, if_pos (by omega)]
    have hkE : ∀ q, 0 ≤ q → trustE r who q = 0 := fun q hq => hkn _ (by rw [hih, show limE q = 0 from if_neg (by omega)]; rfl)
    have htL : ∀ q, 0 ≤ q → trustL r who q = trustF r (explR r (entsL r)) who q 60 (fromL r.sets who 60) := fun q hq => if_pos (hkE q hq)
    rw [hkE lim hli.1, hkE (lim + 1) (by omega), htL lim hli.1, htL (lim + 1) (by omega)]
    obtain ⟨a1, a2, a3, a4⟩ := trustF_spec (r := r) (L := explR r (entsL r)) (h := who) (lim := lim) 60 (fromL r.sets who 60) hfi.2 (by omega)
    have hmo := trustF_mono (r := r) (L := explR r (entsL r)) (h := who) (lim := lim) (lim' := lim + 1) (by omega) hfi.2 hfi.1
    have hof := okD_from (r := r) (L := explR r (entsL r)) (h := who) hs60 hex hli.1
    have heE : ∀ d, 0 ≤ d → d ≤ 60 → errorsE r who d = 0 := fun d g1 g2 => hkn _ (by rw [hih, show isDayE d = 0 from if_pos ⟨g1, g2⟩]; rfl)
    have heL : ∀ d, 0 ≤ d → d ≤ 60 → errorsL r who d = errsL r (explR r (entsL r)) who d := fun d g1 g2 => if_pos (heE d g1 g2)
    generalize fromL r.sets who 60 = d0 at *
    generalize trustF r (explR r (entsL r)) who lim 60 d0 = n at *
    generalize trustF r (explR r (entsL r)) who (lim + 1) 60 d0 = m at *
    have k1 : (m < n) = False := eq_false (by omega)
    have k2 : (n < d0) = False := eq_false (by omega)
    have k3 : (60 < n) = False := eq_false (by omega)
    simp -implicitDefEqProofs (maxSteps := 2000000) (disch := omega) only [go_sem, simprocAttr, hr1, hwl, k1, k2, k3]
    obtain ⟨M, hM⟩ : ∃ M : Int, (if (60 : Int) < n + 1 then 60 else n + 1) = M := ⟨_, rfl⟩
    have hMb : n ≤ M ∧ M ≤ 60 ∧ M ≤ n + 1 := by rw [← hM]; split <;> omega
    have hw1 : IntKind.i64.wrap (n + 1) = n + 1 := wrap64 (by omega) (by omega)
    have hr2 : ∀ j, hget (σ1 ++ j) k = some (.cells [.int .i64 r.hands, .int .i64 r.skill, .int .i64 r.mn, .int .i64 r.mx, .list .no 2 (r.sets.map Sg.av), .list .no 6 (r.ents.map Tn.av)]) := fun j => hgetA hr1
    refine ARun.forJ (Tryz.envOK (S := SBes) 129 (fun _ => ([], [])) fs408 fs408_ok) (M - d0 + 1).toNat (fun _ τ => ∃ j, τ = σ1 ++ j) (fun i => [(14, .int .i64 (d0 + (i : Int)))]) (by kernel_rfl) (by simp [upd, ins, subF, lookA]) ⟨[], by simp⟩ ?_ ?_
    · rintro i τ2 hi ⟨j3, rfl⟩ ih
      have hdM : (d0 + (i : Int) ≤ M) = True := eq_true (by omega)
      have hd60 : 0 ≤ d0 + (i : Int) ∧ d0 + (i : Int) ≤ 60 := by omega
      have hwi : IntKind.i64.wrap (d0 + (i : Int) + 1) = d0 + ((i + 1 : Nat) : Int) := by rw [wrap64 (by omega) (by omega)]; push_cast; omega
      have hok : okD r (explR r (entsL r)) who lim (d0 + (i : Int)) ↔ d0 + (i : Int) ≤ n := by
        constructor
        · intro hk
          refine Classical.byContradiction fun hc => ?_
          have e : d0 + (i : Int) = n + 1 := by omega
          rw [e] at hk
          exact a4 (by omega) hk
        · intro hc
          by_cases c0 : i = 0
          · subst c0; simpa using hof
          · exact a3 _ (by omega) hc
      simp -implicitDefEqProofs (maxSteps := 2000000) (disch := omega) only [go_sem, simprocAttr, hr2, hw1, hM, hdM]
      refine errors_p r hfit who (d0 + (i : Int)) _ _ ?_
      rw [heE _ hd60.1 hd60.2, heL _ hd60.1 hd60.2]
      unfold okD at hok
      generalize errsL r (explR r (entsL r)) who (d0 + (i : Int)) = E at hok ⊢
      by_cases c1 : -lim ≤ E.1
      · by_cases c2 : E.2 ≤ lim
        · have g1 : (0 - lim ≤ E.1) = True := eq_true (by omega)
          have g2 : (E.2 ≤ lim) = True := eq_true c2
          have g3 : (d0 + (i : Int) ≤ n) = True := eq_true (hok.1 ⟨c1, c2⟩)
          simp -implicitDefEqProofs (maxSteps := 2000000) (disch := omega) only [go_sem, simprocAttr, hr2, hw1, hM, hdM, g1, g2, g3, hwi]
          exact (ih _ ⟨j3 ++ [.cells [.int .i64 E.1, .int .i64 E.2]], rfl⟩).castS (by simp) (by simp [upd, ins, subF, lookA])
        · have g1 : (0 - lim ≤ E.1) = True := eq_true (by omega)
          have g2 : (E.2 ≤ lim) = False := eq_false c2
          have g3 : (d0 + (i : Int) ≤ n) = False := eq_false fun hc => c2 (hok.2 hc).2
          simp -implicitDefEqProofs (maxSteps := 2000000) (disch := omega) only [go_sem, simprocAttr, hr2, hw1, hM, hdM, g1, g2, g3, hwi]
          exact (ih _ ⟨j3 ++ [.cells [.int .i64 E.1, .int .i64 E.2]], rfl⟩).castS (by simp) (by simp [upd, ins, subF, lookA])
      · have g1 : (0 - lim ≤ E.1) = False := eq_false (by omega)
        have g3 : (d0 + (i : Int) ≤ n) = False := eq_false fun hc => c1 (hok.2 hc).1
        simp -implicitDefEqProofs (maxSteps := 2000000) (disch := omega) only [go_sem, simprocAttr, hr2, hw1, hM, hdM, g1, g3, hwi]
        exact (ih _ ⟨j3 ++ [.cells [.int .i64 E.1, .int .i64 E.2]], rfl⟩).castS (by simp) (by simp [upd, ins, subF, lookA])
    · rintro τ2 ⟨j3, rfl⟩
      have hdM : (d0 + ((M - d0 + 1).toNat : Int) ≤ M) = False := eq_false (by omega)
      simp -implicitDefEqProofs (maxSteps := 2000000) (disch := omega) only [go_sem, simprocAttr, hr2, hw1, hM, hdM]
      refine steady_p _ _ ?_
      simp -implicitDefEqProofs (maxSteps := 2000000) (disch := omega) only [go_sem, simprocAttr]
end Go.Proofs
