/- The environment in which the first append to an empty literal of some types gives a slice that is written into. -/
import Derived.Test.YtgbdndlmdklefaaGreatK31
import Derived.Test.YtgbdndlmdklefaaGreatK36
import Derived.Test.YtgbdndlmdklefaaGreatK37
import Derived.Test.YtgbdndlmdklefaaGreatK33
import Derived.Test.YtgbdndlmdklefaaGreatK15
import Derived.Test.YtgbdndlmdklefaaGreatK30
import Derived.Shelf.Sort.Plain
import Derived.Shelf.Slices.CompactI
set_option linter.unusedSimpArgs false
set_option linter.unusedVariables false
set_option maxRecDepth 100000
namespace Go.Proofs
open Go Go.Mu Go.Ins
theorem hfirstE_of {α : Type} {f : α → Int} : ∀ {l : List α}, (∀ x ∈ l, f x = 0) → firstE f l = 0
 | [], _ => rfl
 | x :: l, h => by
  show (if f x = 0 then firstE f l else f x) = 0
  rw [if_pos (h x (by simp))]
  exact hfirstE_of fun y hy => h y (by simp [hy])
theorem truthsL_one (sl lo hi : Int) (rds : List Rd) : truthsL ⟨sl, [⟨lo, hi⟩], rds⟩ = (List.range (hi - lo + 1).toNat).flatMap fun (k : Nat) => allT ⟨sl, [⟨lo, hi⟩], rds⟩ 0 (setI [0, 0, 0] ((0 : Nat) : Int) (lo + k)) 1 := rfl
theorem trueT_chk {r : Ros} {rates : List Int} {w : Int} {x : Tn} {b : Int} (h : TrueT r rates w x b) (hw : 0 ≤ w ∧ w ≤ 10) (hs : 0 ≤ r.skill ∧ r.skill ≤ 3) :
  (chkE x r.hands).2 = 0 ∧ ∃ d ∈ (chkE x r.hands).1, -r.skill ≤ d - offX r rates b x.day ∧ d - offX r rates b x.day ≤ r.skill := by
 obtain ⟨t, lo, hi, rds, ⟨e1, e2⟩, g2, g3, g4⟩ := h.ear
 have hb := h.by_in
 have hd := h.day
 have hh := h.hand
 have hdu := h.due
 obtain ⟨day, hand, due, ear⟩ := x
 simp only at g4 hd hh hdu e1 e2 ⊢
 subst g4
 have hck : ck ⟨0, [⟨lo, hi⟩], rds⟩ = 0 := by
  unfold ck
  have hT : firstE ckT [(⟨lo, hi⟩ : Rng)] = 0 := by
   refine hfirstE_of (fun y hy => ?_)
   simp at hy; subst hy
   unfold ckT
   dsimp only
   repeat' split
   all_goals omega
  have hR : firstE (fun r => ckR r (1 : Nat)) rds = 0 := by
   refine hfirstE_of (fun y hy => ?_)
   rcases g3 with rfl | rfl
   ·simp at hy
   ·simp at hy; subst hy
    unfold ckR
    simp only
    repeat' split
    all_goals omega
  have hl : rds.length ≤ 1 := by rcases g3 with rfl | rfl <;> simp
  simp only [List.length_cons, List.length_nil, Nat.zero_add]
  rw [if_neg (by omega), if_neg (by omega), if_neg (by omega), if_neg (fun c => c hT), if_neg (by omega)]
  exact hR
 have htm : [t, 0, 0] ∈ truthsL ⟨0, [⟨lo, hi⟩], rds⟩ := by
  rw [truthsL_one, List.mem_flatMap]
  refine ⟨(t - lo).toNat, List.mem_range.2 (by omega), ?_⟩
  have hts : setI [0, 0, 0] ((0 : Nat) : Int) (lo + ((t - lo).toNat : Int)) = [t, 0, 0] := by
   rw [show lo + ((t - lo).toNat : Int) = t by omega]; rfl
  have hal : (rds.all fun r => isR r 0 [t, 0, 0]) = true := by
   rcases g3 with rfl | rfl
   ·rfl
   ·simp only [List.all_cons, List.all_nil, Bool.and_true, isR, if_true, tg]
    exact decide_eq_true (by
     have : ([t, 0, 0] : List Int).getD (Int.toNat 0) 0 = t := rfl
     rw [this]; omega)
  rw [hts]
  show [t, 0, 0] ∈ if (rds.all fun r => isR r 0 [t, 0, 0]) = true then [[t, 0, 0]] else []
  rw [if_pos hal]; simp
 have hn : truthsL ⟨0, [⟨lo, hi⟩], rds⟩ ≠ [] := List.ne_nil_of_mem htm
 rw [chkE_one (by simp only; omega) (by simp only; omega) (by simp only; omega) hck rfl hn]
 refine ⟨rfl, t - due, List.mem_map.2 ⟨t, ?_, rfl⟩, by omega, by omega⟩
 have : t ∈ firstsL ((truthsL ⟨0, [⟨lo, hi⟩], rds⟩).map fun t => tg t 0) := (addN_mem _ [] _).2 (.inr (List.mem_map.2 ⟨[t, 0, 0], htm, rfl⟩))
 exact this
theorem TrueR.head {H E w : Int} {r : Ros} {rates by_ : List Int} (h : TrueR H E w r rates by_) (hH : H ≤ 4) (hE : E ≤ 5) : headE r = 0 := by
 have h1 := h.hands
 have h2 := h.skill
 have h3 := h.mn
 have h4 := h.mx
 have h5 := h.sl
 have h6 := h.el
 have hs : firstE (setE r.hands) r.sets = 0 := hfirstE_of fun s hs => by
  have := h.set s hs
  unfold setE
  rw [if_neg (by omega), if_neg (by omega)]
 unfold headE
 rw [if_neg (by omega), if_neg (by omega), if_neg (by omega), if_neg (fun c => c hs), if_neg (by omega)]
theorem TrueR.by_at {H E w : Int} {r : Ros} {rates by_ : List Int} (h : TrueR H E w r rates by_) {x : Tn} (hx : x ∈ r.ents) : ∃ b, TrueT r rates w x b := by
 obtain ⟨i, hi, rfl⟩ := List.mem_iff_getElem.1 hx
 exact ⟨_, h.ent i hi (by rw [h.bl]; exact hi)⟩
theorem TrueR.entE {H E w : Int} {r : Ros} {rates by_ : List Int} (h : TrueR H E w r rates by_) (hw : 0 ≤ w ∧ w ≤ 10) : entsE r = 0 := by
 unfold entsE
 refine firstNZ_zero fun e he => ?_
 obtain ⟨x, hx, rfl⟩ := List.mem_map.1 he
 obtain ⟨b, hb⟩ := h.by_at hx
 exact (trueT_chk hb hw h.skill).1
theorem TrueR.ro {H E w : Int} {r : Ros} {rates by_ : List Int} (h : TrueR H E w r rates by_) (hH : H ≤ 4) (hE : E ≤ 5) (hw : 0 ≤ w ∧ w ≤ 10) : rosE r = 0 := by
 unfold rosE; rw [if_neg (fun c => c (h.head hH hE))]; exact h.entE hw
theorem allR_mem {r : Ros} (s : Nat) : ∀ (m : Nat) (x : List Int) (a : Nat) (u : List Int), x.length = 4 → u.length = 4 → a + m ≤ 4 → (∀ i : Nat, i < a → tg u i = tg x i) → (∀ i : Nat, a ≤ i → i < a + m → if s.testBit i then r.mn ≤ tg u i ∧ tg u i ≤ r.mx ∧ tg u i ≠ 0 else tg u i = tg x i) → (∀ i : Nat, a + m ≤ i → tg u i = tg x i) → u ∈ allR r s m x a
 | 0, x, a, u, hx, hu, _, h1, _, h3 => by
  have : u = x := by
   apply List.ext_getElem (by omega)
   intro i g1 g2
   have e := (Nat.lt_or_ge i a).elim (h1 i) (fun g => h3 i (by omega))
   unfold tg at e
   rw [Int.toNat_natCast, List.getD_eq_getElem?_getD, List.getD_eq_getElem?_getD, List.getElem?_eq_getElem g1, List.getElem?_eq_getElem g2] at e
   simpa using e
  rw [this]; simp [allR]
 | m + 1, x, a, u, hx, hu, ha, h1, h2, h3 => by
  have htg : ∀ (n : Int) (i : Nat), tg (setI x a n) i = if i = a then n else tg x i := fun n i => by
   unfold tg setI
   simp only [Int.toNat_natCast, List.getD_eq_getElem?_getD, List.getElem?_set]
   by_cases e : a = i
   ·subst e; simp [show a < x.length by omega]
   ·rw [if_neg e, if_neg (fun h => e h.symm)]
  have ha2 := h2 a (Nat.le_refl _) (by omega)
  simp only [allR]
  by_cases hs : s.testBit a = true
  ·rw [if_pos hs] at ha2
   rw [if_pos hs, List.mem_flatMap]
   refine ⟨(tg u a - r.mn).toNat, List.mem_range.2 (by omega), ?_⟩
   have e : r.mn + ((tg u a - r.mn).toNat : Int) = tg u a := by omega
   rw [e, if_neg ha2.2.2]
   refine allR_mem s m (setI x a (tg u a)) (a + 1) u (by simp [setI, hx]) hu (by omega) (fun i hi => ?_) (fun i g1 g2 => ?_) (fun i hi => ?_)
   ·rw [htg]
    by_cases c : i = a
    ·rw [if_pos c, c]
    ·rw [if_neg c]; exact h1 i (Nat.lt_of_le_of_ne (Nat.le_of_lt_succ hi) c)
   ·rw [htg, if_neg (show ¬ i = a by omega)]; exact h2 i (by omega) (by omega)
   ·rw [htg, if_neg (show ¬ i = a by omega)]; exact h3 i (by omega)
  ·rw [if_neg hs] at ha2
   rw [if_neg hs]
   refine allR_mem s m x (a + 1) u hx hu (by omega) (fun i hi => ?_) (fun i g1 g2 => h2 i (by omega) (by omega)) (fun i hi => h3 i (by omega))
   by_cases c : i = a
   ·rw [c]; exact ha2
   ·exact h1 i (by omega)
def padR (rates : List Int) : List Int := rates ++ List.replicate (4 - rates.length) 0
theorem padR_tg (rates : List Int) (i : Int) : tg (padR rates) i = tg rates i := by
 unfold tg padR
 simp only [List.getD, List.getElem?_append, List.getElem?_replicate]
 split
 ·rfl
 ·rename_i h
  rw [List.getElem?_eq_none (by omega)]
  split <;> rfl
theorem TrueR.truth {H E w : Int} {r : Ros} {rates by_ : List Int} (h : TrueR H E w r rates by_) (hH : H ≤ 4) (hE : E ≤ 5) (hw : 0 ≤ w ∧ w ≤ 10) : padR rates ∈ htruthsR r (entsL r) (driftN (padR rates)) ∧ driftN (padR rates) < 2 ^ r.hands.toNat := by
 have h1 := h.hands
 have hrl := h.rl
 have hpl : (padR rates).length = 4 := by unfold padR; rw [List.length_append, List.length_replicate]; omega
 have hbig : ∀ i : Nat, rates.length ≤ i → tg (padR rates) i = 0 := fun i hi => by
  rw [padR_tg]; unfold tg; rw [Int.toNat_natCast, List.getD_eq_getElem?_getD, List.getElem?_eq_none hi]; rfl
 have hbit : ∀ i, (driftN (padR rates)).testBit i = (decide (i < 4) && decide (tg (padR rates) i ≠ 0)) := fun i => by unfold driftN; rw [bitsOf_test]
 constructor
 ·unfold htruthsR
  rw [List.mem_filter]
  constructor
  ·refine allR_mem _ _ _ _ _ rfl hpl (by omega) (fun i hi => by omega) (fun i g1 g2 => ?_) (fun i hi => ?_)
   ·have h0 : tg ([0, 0, 0, 0] : List Int) i = 0 := by
     match i with
     | 0 => rfl
     | 1 => rfl
     | 2 => rfl
     | 3 => rfl
     | i + 4 => unfold tg; rw [Int.toNat_natCast]; rfl
    rw [h0, hbit, decide_eq_true (show i < 4 by omega), Bool.true_and]
    by_cases hz : tg (padR rates) i = 0
    ·rw [decide_eq_false (fun c => c hz), if_neg (by simp)]; exact hz
    ·rw [decide_eq_true hz, if_pos rfl]
     have hlt : i < rates.length := by omega
     have e : tg (padR rates) i = rates[i] := by rw [padR_tg]; unfold tg; rw [Int.toNat_natCast, List.getD_eq_getElem?_getD, List.getElem?_eq_getElem hlt]; rfl
     have := h.rate _ (List.getElem_mem hlt)
     rw [← e] at this
     rcases this with g | g
     ·exact absurd g hz
     ·exact ⟨g.1, g.2, hz⟩
   ·rw [hbig i (by omega)]
    match i with
    | 0 => rfl
    | 1 => rfl
    | 2 => rfl
    | 3 => rfl
    | i + 4 => unfold tg; rw [Int.toNat_natCast]; rfl
  ·unfold isB
   rw [List.all_eq_true]
   intro i hi
   have hi' := List.mem_range.1 hi
   have hT := h.ent i hi' (by rw [h.bl]; exact hi')
   have hb := hT.by_in
   rw [List.any_eq_true]
   refine ⟨(by_[i]'(by rw [h.bl]; exact hi')).toNat, List.mem_range.2 (by omega), ?_⟩
   rw [Int.toNat_of_nonneg hb.1]
   obtain ⟨_, d, hd, e1, e2⟩ := trueT_chk hT hw h.skill
   unfold byB
   have hgd : r.ents.getD i default = r.ents[i] := by simp [List.getD, List.getElem?_eq_getElem hi']
   have hgs : (entsL r).getD i [] = (chkE r.ents[i] r.hands).1 := by
    unfold entsL; simp [List.getD, List.getElem?_eq_getElem hi']
   rw [hgd, hgs, if_neg (by rcases hT.hand with g | g <;> omega), List.any_eq_true]
   have ho : offX r (padR rates) (by_[i]'(by rw [h.bl]; exact hi')) r.ents[i].day = offX r rates (by_[i]'(by rw [h.bl]; exact hi')) r.ents[i].day := by unfold offX; rw [padR_tg]
   exact ⟨d, hd, decide_eq_true (by rw [ho]; exact ⟨e1, e2⟩)⟩
 ·refine Nat.lt_pow_two_of_testBit _ fun i hi => ?_
  rw [hbit]
  by_cases hz : tg (padR rates) i = 0
  ·rw [decide_eq_false (p := tg (padR rates) i ≠ 0) (fun c => c hz), Bool.and_false]
  ·exact absurd (hbig i (by omega)) hz
theorem TrueR.expl {H E w : Int} {r : Ros} {rates by_ : List Int} (h : TrueR H E w r rates by_) (hH : H ≤ 4) (hE : E ≤ 5) (hw : 0 ≤ w ∧ w ≤ 10) : explR r (entsL r) ≠ [] := by
 obtain ⟨t1, t2⟩ := h.truth hH hE hw
 have hhd := Ros.head_of (h.head hH hE)
 intro e
 rcases explR_spec r (entsL r) with ⟨_, g⟩ | ⟨m, _, g1, g2, _⟩
 ·have hle : popN (driftN (padR rates)) ≤ r.hands.toNat := by
   have h4 := hhd.hands
   have hp : ∀ n s, s < 2 ^ n → popN s ≤ n := by
    intro n
    induction n with
    | zero =>
     intro s hs
     have : s = 0 := by simpa using hs
     subst this
     rw [popN_zero]; omega
    | succ n ih =>
     intro s hs
     rw [popN_step]
     have := ih (s / 2) (by rw [Nat.pow_succ] at hs; omega)
     omega
   exact hp _ _ t2
  have := g _ hle
  have hm := (foundR_mem hhd (m := popN (driftN (padR rates)))).2 ⟨_, t2, rfl, t1⟩
  rw [this] at hm; simp at hm
 ·rw [g1] at e; exact g2 (addX_nil.1 e)
theorem TrueR.known {H E w : Int} {r : Ros} {rates by_ : List Int} (h : TrueR H E w r rates by_) (hH : H ≤ 4) (hE : E ≤ 5) (hw : 0 ≤ w ∧ w ≤ 10) {ws : List Int} (hz : firstNZ ws = 0) : knownE r ws = 0 := by
 unfold knownE
 rw [if_neg (fun c => c (h.ro hH hE hw)), if_neg (fun c => c hz), if_neg (h.expl hH hE hw)]
end Go.Proofs
namespace Go.Proofs
open Go Go.Mu Go.Ins
variable {S : MC Tryz.prog}
end Go.Proofs
set_option maxHeartbeats 40000000
namespace Go.Proofs
open Go Go.Mu Go.Ins
def setN (l : List Int) : Nat := l.foldl (fun s h => s ||| 2 ^ h.toNat) 0
theorem setN_succ {l : List Int} {i : Nat} (hi : i < l.length) : setN (l.take (i + 1)) = setN (l.take i) ||| 2 ^ l[i].toNat := by
 unfold setN; rw [List.take_succ_eq_append_getElem hi, List.foldl_append]; rfl
theorem setN_lt {l : List Int} {n : Nat} (h : ∀ x ∈ l, 0 ≤ x ∧ x < n) : setN l < 2 ^ n := by
 have key : ∀ (l : List Int) (s : Nat), s < 2 ^ n → (∀ x ∈ l, 0 ≤ x ∧ x < (n : Int)) → l.foldl (fun s h => s ||| 2 ^ h.toNat) s < 2 ^ n := by
  intro l
  induction l with
  | nil => intro s hs _; exact hs
  | cons x l ih =>
   intro s hs hx
   have := hx x (by simp)
   exact ih _ (Nat.or_lt_two_pow hs (Nat.pow_lt_pow_right (by omega) (by omega))) fun y hy => hx y (by simp [hy])
 exact key l 0 (Nat.two_pow_pos n) h
theorem explains_p (r : Ros) (hf : r.Fit) (hg : r.Good) (hh0 : headE r = 0) (he0 : entsE r = 0) (l : List Int) (hl : ∀ x ∈ l, 0 ≤ x ∧ x < r.hands) (hn : l.length ≤ 1000) (ha : l.Pairwise (· < ·)) :
  PureV SBes 47 [r.av, ints1 l] (.tup [.bool (decide (htruthsR r (entsL r) (setN l) ≠ [])), .int .i64 0]) := by
 refine PvE (Tryz.envOK (S := SBes) 54 (fun _ => ([], [])) fs405 fs405_ok) (.tup (by simp only [List.mem_cons, List.not_mem_nil, or_false, forall_eq_or_imp, forall_eq]; exact ⟨.bool, .int⟩)) Tryz.kp47 Tryz.func47 rfl ?_
 intro σ
 have hhd := hg.hands
 have hH : (r.hands.toNat : Int) = r.hands := by omega
 have hlt : ∀ i, setN (l.take i) < 16 := fun i => by
  have h1 := setN_lt (l := l.take i) (n := r.hands.toNat) fun x hx => by rw [hH]; exact hl x (List.mem_of_mem_take hx)
  have hp : (2 : Nat) ^ r.hands.toNat ≤ 2 ^ 4 := Nat.pow_le_pow_right (by omega) (by omega)
  omega
 simp only [Ros.av, ints1]
 simp -implicitDefEqProofs (maxSteps:=9^9) (disch:=omega) only [go_sem, simprocAttr]
 refine rosterOf_ok r hh0 (by have := hf.sets; omega) (hf.ok hh0) _ _ ?_
 rw [he0]
 simp only [Ros.wav]
 simp -implicitDefEqProofs (maxSteps:=9^9) (disch:=omega) only [go_sem, simprocAttr]
 refine ARun.forS (Tryz.envOK (S := SBes) 54 (fun _ => ([], [])) fs405 fs405_ok) l.length (fun _ => True) (fun i => [(8, .int .u64 (setN (l.take i))), (21, .int .i64 i)]) (fun _ _ => σ ++ [.cells [.int .i64 r.hands, .int .i64 r.skill, .int .i64 r.mn, .int .i64 r.mx, .list .no 2 (r.sets.map Sg.av), .list .no 6 (r.ents.map Tn.av)], .cells (r.wcells (entsL r))]) [] (by kernel_rfl) (by simp [Ros.wcells]) (by simp [upd, ins, subF, lookA, setN]) trivial ?_ ?_
 ·intro i j hi _ ih
  have hidx : idx (l.map (AV.int .i64)) (i : Int) = some (.int .i64 l[i]) := by rw [idx_nat hi]
  have hx := hl _ (List.getElem_mem hi)
  have hs := hlt i
  rw [setN_succ hi] at ih
  have hxn : ((l[i].toNat : Nat) : Int) = l[i] := by omega
  have hpr : 0 < i → ∃ y, idx (l.map (AV.int .i64)) ((i : Int) - 1) = some (.int .i64 y) ∧ y < l[i] := fun h0 => by
   refine ⟨l[i - 1], ?_, List.pairwise_iff_getElem.1 ha (i - 1) i (by omega) hi (by omega)⟩
   rw [show (i : Int) - 1 = ((i - 1 : Nat) : Int) by omega, idx_nat (by omega)]
  generalize setN (l.take i) = s at hs ih ⊢
  generalize l[i] = x at *
  obtain ⟨n, rfl⟩ : ∃ n : Nat, x = n := ⟨x.toNat, by omega⟩
  rw [Int.toNat_natCast] at ih
  have hn4 : n < 4 := by omega
  have hwh : IntKind.i64.wrap (r.hands - 1) = r.hands - 1 := wrap64 (by omega) (by omega)
  have hwi : IntKind.i64.wrap ((i : Int) - 1) = (i : Int) - 1 := wrap64 (by omega) (by omega)
  have hin1 : ((n : Int) ≤ r.hands - 1) = True := eq_true (by omega)
  by_cases h0 : 0 < i
  ·obtain ⟨y, hy, hyx⟩ := hpr h0
   have h0' : (0 < (i : Int)) = True := eq_true (by omega)
   have hyx' : ((n : Int) ≤ y) = False := eq_false (by omega)
   simp -implicitDefEqProofs (maxSteps:=9^9) (disch:=omega) only [go_sem, simprocAttr, hidx, hwh, hin1, h0', hwi, hy, hyx']
   exact (ih trivial []).castS (by simp [Ros.wcells]) (by simp [upd, ins, subF, lookA])
  ·have h0' : (0 < (i : Int)) = False := eq_false (by omega)
   simp -implicitDefEqProofs (maxSteps:=9^9) (disch:=omega) only [go_sem, simprocAttr, hidx, hwh, hin1, h0']
   exact (ih trivial []).castS (by simp [Ros.wcells]) (by simp [upd, ins, subF, lookA])
 ·intro j _
  rw [List.take_length]
  have hs := hlt l.length
  rw [List.take_length] at hs
  have hlen := htruthsR_len hg.toHead (ds := entsL r) (s := setN l)
  have hmap : ((htruthsR r (entsL r) (setN l)).map rtv).length = (htruthsR r (entsL r) (setN l)).length := by simp
  have hde : (0 < ((htruthsR r (entsL r) (setN l)).length : Int)) ↔ htruthsR r (entsL r) (setN l) ≠ [] := by
   rw [← List.length_pos_iff]; omega
  have hde2 : decide (0 < ((htruthsR r (entsL r) (setN l)).length : Int)) = decide (htruthsR r (entsL r) (setN l) ≠ []) := by simp only [hde]
  simp -implicitDefEqProofs (maxSteps:=9^9) (disch:=omega) only [go_sem, simprocAttr, Ros.wcells]
  refine htruths_p r (entsL r) hg.work (setN l) hs _ _ ?_
  generalize htruthsR r (entsL r) (setN l) = T at hmap hde hde2 hlen ⊢
  simp -implicitDefEqProofs (maxSteps:=9^9) (disch:=omega) only [go_sem, simprocAttr, hmap, hde2]
  by_cases hz : T = [] <;> simp [hz]
end Go.Proofs
namespace Go.Proofs
open Go Go.Mu
variable {S : MC Tryz.prog}
def hcomb (n : Nat) : Nat → Nat → List (List Int)
 | 0, _ => [[]]
 | m + 1, a => (List.range (n - a)).flatMap fun k => (hcomb n m (a + k + 1)).map fun l => ((a + k : Nat) : Int) :: l
theorem hcomb_mem {n : Nat} : ∀ {m a : Nat} {l : List Int}, l ∈ hcomb n m a → l.length = m ∧ (∀ x ∈ l, (a : Int) ≤ x ∧ x < n) ∧ l.Pairwise (· < ·)
 | 0, a, l, h => by simp [hcomb] at h; subst h; simp
 | m + 1, a, l, h => by
  obtain ⟨k, hk, h2⟩ := List.mem_flatMap.1 h
  obtain ⟨u, hu, rfl⟩ := List.mem_map.1 h2
  obtain ⟨h3, h4, h5⟩ := hcomb_mem hu
  have hk' := List.mem_range.1 hk
  refine ⟨by simp [h3], fun x hx => ?_, ?_⟩
  ·rcases List.mem_cons.1 hx with rfl | hx
   ·omega
   ·have := h4 x hx; omega
  ·rw [List.pairwise_cons]
   exact ⟨fun y hy => by have := h4 y hy; omega, h5⟩
end Go.Proofs
namespace Go.Proofs
open Go Go.Mu Go.Ins
theorem comb_set1 : ∀ n < 5, ∀ m < 5, ∀ x ∈ hcomb n m 0, setN x < 2 ^ n ∧ popF (setN x) = m ∧ listN (setN x) = x := by decide +kernel
theorem comb_set2 : ∀ n < 5, ∀ s < 2 ^ n, listN s ∈ hcomb n (popF s) 0 ∧ setN (listN s) = s := by decide +kernel
theorem comb_set : ∀ n < 5, ∀ m < 5, (∀ x ∈ hcomb n m 0, setN x < 2 ^ n ∧ popF (setN x) = m ∧ listN (setN x) = x) ∧ (∀ s < 2 ^ n, popF s = m → listN s ∈ hcomb n m 0 ∧ setN (listN s) = s) := fun n hn m hm =>
 ⟨comb_set1 n hn m hm, fun s hs e => by have := comb_set2 n hn s hs; rw [e] at this; exact this⟩
theorem comb_ord : ∀ n < 5, ∀ m < 5, (hcomb n m 0).Nodup ∧ (hcomb n m 0).Pairwise (fun a b => cmpL a b ≤ 0) := by decide +kernel
theorem list_set : ∀ s < 16, setN (listN s) = s := by decide +kernel
def hdue (r : Ros) (m : Nat) : List (List Int) := (hcomb r.hands.toNat m 0).filter fun l => decide (htruthsR r (entsL r) (setN l) ≠ [])
theorem found_due {r : Ros} (hr : r.Head) {m : Nat} (hm : m ≤ r.hands.toNat) : foundR r (entsL r) m = [] ↔ hdue r m = [] := by
 have hh := hr.hands
 obtain ⟨c1, c2⟩ := comb_set r.hands.toNat (by omega) m (by omega)
 have hp : (2 : Nat) ^ r.hands.toNat ≤ 2 ^ 4 := Nat.pow_le_pow_right (by omega) (by omega)
 constructor
 ·intro h
  unfold hdue
  rw [List.filter_eq_nil_iff]
  intro x hx hd
  obtain ⟨g1, g2, _⟩ := c1 x hx
  obtain ⟨u, hu⟩ := List.exists_mem_of_ne_nil _ (of_decide_eq_true hd)
  have := (foundR_mem hr (m := m)).2 ⟨setN x, g1, by rw [← popF_eq _ (by omega)]; exact g2, hu⟩
  rw [h] at this; simp at this
 ·intro h
  refine List.eq_nil_iff_forall_not_mem.2 fun u hu => ?_
  obtain ⟨s, g1, g2, g3⟩ := (foundR_mem hr).1 hu
  obtain ⟨k1, k2⟩ := c2 s g1 (by rw [popF_eq _ (by omega)]; exact g2)
  have : listN s ∈ hdue r m := List.mem_filter.2 ⟨k1, decide_eq_true (by rw [k2]; exact List.ne_nil_of_mem g3)⟩
  rw [h] at this; simp at this
theorem sets_due {r : Ros} (hr : r.Head) {m : Nat} (hm : m ≤ r.hands.toNat) (he : explR r (entsL r) = (foundR r (entsL r) m).foldl addX []) : setsL (explR r (entsL r)) = hdue r m := by
 have hh := hr.hands
 obtain ⟨c1, c2⟩ := comb_set r.hands.toNat (by omega) m (by omega)
 obtain ⟨o1, o2⟩ := comb_ord r.hands.toNat (by omega) m (by omega)
 have hp : (2 : Nat) ^ r.hands.toNat ≤ 2 ^ 4 := Nat.pow_le_pow_right (by omega) (by omega)
 have hdl : ∀ s, s ∈ driftsL (explR r (entsL r)) ↔ s < 2 ^ r.hands.toNat ∧ popN s = m ∧ htruthsR r (entsL r) s ≠ [] := fun s => by
  unfold driftsL
  rw [addX_mem, List.mem_map]
  constructor
  ·rintro (h | ⟨u, hu, rfl⟩)
   ·simp at h
   ·obtain ⟨g1, g2, g3⟩ := found_pop hr ((explR_iff he).1 hu)
    exact ⟨g2, g1, List.ne_nil_of_mem g3⟩
  ·rintro ⟨g1, g2, g3⟩
   obtain ⟨u, hu⟩ := List.exists_mem_of_ne_nil _ g3
   exact .inr ⟨u, (explR_iff he).2 ((foundR_mem hr).2 ⟨s, g1, g2, hu⟩), driftN_of hr g1 (List.mem_filter.1 hu).1⟩
 refine (isort_eq (le := leL) leL_trans leL_total (fun _ _ => leL_anti) (o2.filter _) ?_).symm
 refine (List.perm_ext_iff_of_nodup (o1.filter _) ?_).2 fun x => ?_
 ·rw [List.Nodup, List.pairwise_map]
  refine (addX_nodup List.nodup_nil : (driftsL (explR r (entsL r))).Nodup).imp_of_mem fun {a b} ha hb hab e => hab ?_
  have h1 := (hdl a).1 ha
  have h2 := (hdl b).1 hb
  rw [← list_set a (by omega), ← list_set b (by omega), e]
 ·rw [List.mem_map, List.mem_filter, decide_eq_true_eq]
  constructor
  ·rintro ⟨hx, hd⟩
   obtain ⟨g1, g2, g3⟩ := c1 x hx
   exact ⟨setN x, (hdl _).2 ⟨g1, by rw [← popF_eq _ (by omega)]; exact g2, hd⟩, g3⟩
  ·rintro ⟨s, hs, rfl⟩
   obtain ⟨g1, g2, g3⟩ := (hdl s).1 hs
   obtain ⟨k1, k2⟩ := c2 s g1 (by rw [popF_eq _ (by omega)]; exact g2)
   exact ⟨k1, by rw [k2]; exact g3⟩
theorem fewL_some {r : Ros} (hg : r.Good) (hro : rosE r = 0) {m : Nat} (hm : m ≤ r.hands.toNat) (h1 : hdue r m ≠ []) (h0 : ∀ j, j < m → hdue r j = []) : knownE r [] = 0 ∧ fewL r = hdue r m := by
 rcases explR_spec r (entsL r) with ⟨_, g⟩ | ⟨k, g1, g2, g3, g4⟩
 ·exact absurd ((found_due hg.toHead hm).1 (g m hm)) h1
 ·have hkm : k = m := by
   rcases Nat.lt_trichotomy k m with c | c | c
   ·exact absurd ((found_due hg.toHead g1).2 (h0 k c)) g3
   ·exact c
   ·exact absurd ((found_due hg.toHead hm).1 (g4 m c)) h1
  subst hkm
  have hne : explR r (entsL r) ≠ [] := by rw [g2]; exact fun e => g3 (addX_nil.1 e)
  have hk : knownE r [] = 0 := by
   unfold knownE
   rw [if_neg (fun c => c hro), if_neg (fun c => c rfl), if_neg hne]
  exact ⟨hk, by unfold fewL; rw [if_pos hk]; exact sets_due hg.toHead hm g2⟩
end Go.Proofs
namespace Go.Proofs
open Go Go.Mu
end Go.Proofs
namespace Go.Proofs
open Go Go.Mu Go.Ins
theorem hdue_len {r : Ros} {m : Nat} {x : List Int} (h : x ∈ hdue r m) : x.length = m := (hcomb_mem (List.mem_filter.1 h).1).1
theorem errF_ends {f : List Int → Int} : ∀ (L : List (List Int)) (m : Int × Int), (L.foldl (errF f) m).1 ≤ m.1 ∧ m.2 ≤ (L.foldl (errF f) m).2 ∧ (∀ x ∈ L, (L.foldl (errF f) m).1 ≤ f x ∧ f x ≤ (L.foldl (errF f) m).2) ∧ ((L.foldl (errF f) m).1 = m.1 ∨ ∃ x ∈ L, (L.foldl (errF f) m).1 = f x) ∧ ((L.foldl (errF f) m).2 = m.2 ∨ ∃ x ∈ L, (L.foldl (errF f) m).2 = f x)
 | [], m => ⟨Int.le_refl _, Int.le_refl _, by simp, .inl rfl, .inl rfl⟩
 | x :: L, m => by
  obtain ⟨h1, h2, h3, h4, h5⟩ := errF_ends L (errF f m x)
  rw [List.foldl_cons]
  have e1 : (errF f m x).1 = if f x < m.1 then f x else m.1 := rfl
  have e2 : (errF f m x).2 = if m.2 < f x then f x else m.2 := rfl
  generalize L.foldl (errF f) (errF f m x) = g at *
  rw [e1] at h1 h4
  rw [e2] at h2 h5
  refine ⟨by split at h1 <;> omega, by split at h2 <;> omega, fun y hy => ?_, ?_, ?_⟩
  ·rcases List.mem_cons.1 hy with rfl | hy
   ·constructor
    ·split at h1 <;> omega
    ·split at h2 <;> omega
   ·exact h3 y hy
  ·rcases h4 with h4 | ⟨y, hy, h4⟩
   ·split at h4
    ·exact .inr ⟨x, by simp, h4⟩
    ·exact .inl h4
   ·exact .inr ⟨y, by simp [hy], h4⟩
  ·rcases h5 with h5 | ⟨y, hy, h5⟩
   ·split at h5
    ·exact .inr ⟨x, by simp, h5⟩
    ·exact .inl h5
   ·exact .inr ⟨y, by simp [hy], h5⟩
end Go.Proofs
namespace Go.Proofs
open Go Go.Mu
variable {S : MC Tryz.prog}
theorem ARun.once {E : Env} (hE : EnvOK E) {ro : Option Nat} {c : Code} {k : List Item} {kp : Nat → Bool} {tm sl : List (Nat × AV)} {σ : List AObj} {Q : Post}
  (hO : todoOK E (.code c :: .inLoop c :: k) = true) (h : ev E ro 100000 (.code c :: .inLoop c :: k) ⟨kp, [], sl⟩ σ Q) : ARun E ro (.code (.loop c) :: k) ⟨kp, tm, sl⟩ σ Q :=
 ARun.anew (fr := ⟨kp, tm, sl⟩) (.loop (ev_sound hE hO h))
theorem same_step {α : Type} [DecidableEq α] {a b : List α} {i : Nat} (hl : a.length = b.length) (h : i < a.length) (ht : a.take i = b.take i) : (a.take (i + 1) = b.take (i + 1)) ↔ a[i] = b[i]'(by omega) := by
 have ta := List.take_succ_eq_append_getElem h
 have tb := List.take_succ_eq_append_getElem (l := b) (i := i) (by omega)
 rw [ta, tb, ht]
 simp only [List.append_cancel_left_eq, List.cons.injEq, and_true]
theorem sameInts_p (a b : List Int) (hl : a.length ≤ 4294967296) (hl2 : b.length ≤ 4294967296) : PureV S 51 [.list .no 1 (a.map (.int .i64)), .list .no 1 (b.map (.int .i64))] (.bool (decide (a = b))) := by
 refine PvE (Tryz.envOK (S := S) 31 Tryz.ord51 fs0 fs0_ok) (.bool) Tryz.kp51 Tryz.func51 rfl ?_
 intro σ
 by_cases hlen : a.length = b.length
 ·have hz : ((a.length : Int) = b.length) := by omega
  simp -implicitDefEqProofs (maxSteps:=9^9) (disch:=omega) only [go_sem, simprocAttr]
  refine ARun.loopJ (Tryz.envOK (S := S) 31 Tryz.ord51 fs0 fs0_ok) (α := Nat × Bool) (fun p => a.length - p.1) (fun p τ => τ = σ ∧ p.1 ≤ a.length ∧ p.2 = decide (a.take p.1 = b.take p.1)) (fun p => [(5, .bool p.2), (6, .int .i64 p.1)]) (0, true) (by kernel_rfl) (by simp [upd, ins, subF, lookA]) ⟨rfl, Nat.zero_le _, by simp⟩ ?_
  rintro ⟨i, c⟩ τ ⟨rfl, hi, hc⟩ ih
  simp only at hi hc ih
  cases c
  ·simp -implicitDefEqProofs (maxSteps:=9^9) (disch:=omega) only [go_sem, simprocAttr]
   have : ¬ a = b := fun e => by subst e; simp at hc
   simp [this]
  ·have htk : a.take i = b.take i := by simpa using hc
   by_cases hlt : i < a.length
   ·have hst := same_step hlen hlt htk
    have hia : idx (a.map (AV.int .i64)) (i : Int) = some (.int .i64 a[i]) := idx_nat hlt
    have hib : idx (b.map (AV.int .i64)) (i : Int) = some (.int .i64 (b[i]'(by omega))) := idx_nat (by omega)
    generalize a[i] = x at hst hia
    generalize b[i]'(by omega) = y at hst hib
    clear hc htk
    simp -implicitDefEqProofs (maxSteps:=9^9) (disch:=omega) only [go_sem, simprocAttr, hia, hib]
    refine ⟨fun h => (ih (i + 1, true) _ (by simp only; omega) ⟨rfl, by simp only; omega, ?_⟩).castS rfl (by simp [upd, ins, subF, lookA]), fun h => (ih (i + 1, false) _ (by simp only; omega) ⟨rfl, by simp only; omega, ?_⟩).castS rfl (by simp [upd, ins, subF, lookA])⟩
    ·simp [hst, h]
    ·simp [hst, h]
   ·have : i = a.length := by omega
    subst this
    simp -implicitDefEqProofs (maxSteps:=9^9) (disch:=omega) only [go_sem, simprocAttr]
    have : a = b := by rwa [List.take_length, hlen, List.take_length] at htk
    simp [this]
 ·have hz : ¬ ((a.length : Int) = b.length) := by omega
  have : ¬ a = b := fun e => hlen (by rw [e])
  simp -implicitDefEqProofs (maxSteps:=9^9) (disch:=omega) only [go_sem, simprocAttr]
  refine ARun.once (Tryz.envOK (S := S) 31 Tryz.ord51 fs0 fs0_ok) (by kernel_rfl) ?_
  simp -implicitDefEqProofs (maxSteps:=9^9) (disch:=omega) only [go_sem, simprocAttr]
  simp [this]
def sameInts_s := spec2 tIs tIs fun a b => if a.length ≤ 4294967296 ∧ b.length ≤ 4294967296 then some (.bool (decide (a = b))) else none
theorem sameInts_ok : ∀ xs v, sameInts_s xs = some v → PureV S 51 xs v :=
 spec2_ok fun a b v h => by have h := someIf h; rw [← h.2]; exact sameInts_p a b h.1.1 h.1.2
end Go.Proofs
namespace Go.Proofs
open Go Go.Mu Go.Ins
variable {S : MC Tryz.prog}
theorem hto_p (a b : Int) : PureV S 60 [.int .i64 a, .int .i64 b] (Rng.mk a b).av := by
 refine PvE (Tryz.envOK (S := S) 8 (fun _ => ([], [])) fs0 fs0_ok) (Rng.plain _) Tryz.kp60 Tryz.func60 rfl ?_
 intro σ
 simp -implicitDefEqProofs (maxSteps:=9^9) (disch:=omega) only [go_sem, simprocAttr, Rng.av]
def hto_s := spec2 tI tI fun a b => some (Rng.mk a b).av
theorem hto_ok : ∀ xs v, hto_s xs = some v → PureV S 60 xs v :=
 spec2_ok fun a b v h => by simp only [Option.some.injEq] at h; rw [← h]; exact hto_p a b
def fs408 (f : FuncId) (xs : List AV) : Option AV := if f = 60 then hto_s xs else if f = 51 then sameInts_s xs else fs407 f xs
theorem fs408_ok {S : MC Tryz.prog} : ∀ f xs v, fs408 f xs = some v → PureV S f xs v := by
 intro f xs v h
 unfold fs408 at h
 split at h
 ·rename_i e; subst e; exact hto_ok _ _ h
 split at h
 ·rename_i e; subst e; exact sameInts_ok _ _ h
 exact fs407_ok _ _ _ h
attribute [go_sem] fs408 hto_s sameInts_s
theorem htuned_p (d b due lo hi : Int) : PureV S 63 [.int .i64 d, .int .i64 b, .int .i64 due, .int .i64 lo, .int .i64 hi] (tnd d b due lo hi).av := by
 refine PvE (Tryz.envOK (S := S) 20 (fun _ => ([], [])) fs408 fs408_ok) ((Plain.agg (Tn.plains _))) Tryz.kp63 Tryz.func63 rfl ?_
 intro σ
 simp -implicitDefEqProofs (maxSteps:=9^9) (disch:=omega) only [go_sem, simprocAttr, Rng.av, Tn.av, Tn.cells, tnd]
theorem shop_p : PureV S 91 [] shopR.av := by
 refine PvE (Tryz.envOK (S := S) 7 (fun _ => ([], [])) fs408 fs408_ok) (Ros.plain _) Tryz.kp91 Tryz.func91 rfl ?_
 intro σ
 simp -implicitDefEqProofs (maxSteps:=9^9) (disch:=omega) only [go_sem, simprocAttr, Rng.av]
 refine htuned_p _ _ _ _ _ _ _ ?_
 simp -implicitDefEqProofs (maxSteps:=9^9) (disch:=omega) only [go_sem, simprocAttr, Rng.av]
 refine htuned_p _ _ _ _ _ _ _ ?_
 simp -implicitDefEqProofs (maxSteps:=9^9) (disch:=omega) only [go_sem, simprocAttr, Rng.av]
 refine htuned_p _ _ _ _ _ _ _ ?_
 simp only [Tn.av, Tn.cells, tnd, List.map_cons, List.map_nil, Rng.av]
 simp -implicitDefEqProofs (maxSteps:=9^9) (disch:=omega) only [go_sem, simprocAttr, Rng.av, Ros.av, shopR, Tn.av, Tn.cells, tnd]
theorem lone_p : PureV S 90 [] loneR.av := by
 refine PvE (Tryz.envOK (S := S) 7 (fun _ => ([], [])) fs408 fs408_ok) (Ros.plain _) Tryz.kp90 Tryz.func90 rfl ?_
 intro σ
 simp -implicitDefEqProofs (maxSteps:=9^9) (disch:=omega) only [go_sem, simprocAttr, Rng.av]
 refine shop_p _ _ ?_
 simp only [Ros.av]
 simp -implicitDefEqProofs (maxSteps:=9^9) (disch:=omega) only [go_sem, simprocAttr, Rng.av]
 refine htuned_p _ _ _ _ _ _ _ ?_
 simp only [Tn.av, Tn.cells, tnd, List.map_cons, List.map_nil, Rng.av]
 simp -implicitDefEqProofs (maxSteps:=9^9) (disch:=omega) only [go_sem, simprocAttr, Rng.av, Ros.av, shopR, loneR, Tn.av, Tn.cells, tnd]
theorem hsameLists_p (a b : List (List Int)) (hl : a.length ≤ 4294967296) (hl2 : b.length ≤ 4294967296) (ha : ∀ x ∈ a, x.length ≤ 4294967296) (hb : ∀ x ∈ b, x.length ≤ 4294967296) : PureV S 50 [.list .no 1 (a.map ints1), .list .no 1 (b.map ints1)] (.bool (decide (a = b))) := by
 refine PvE (Tryz.envOK (S := S) 31 Tryz.ord50 fs408 fs408_ok) (.bool) Tryz.kp50 Tryz.func50 rfl ?_
 intro σ
 by_cases hlen : a.length = b.length
 ·have hz : ((a.length : Int) = b.length) := by omega
  simp -implicitDefEqProofs (maxSteps:=9^9) (disch:=omega) only [go_sem, simprocAttr]
  refine ARun.loopJ (Tryz.envOK (S := S) 31 Tryz.ord50 fs408 fs408_ok) (α := Nat × Bool) (fun p => a.length - p.1) (fun p τ => τ = σ ∧ p.1 ≤ a.length ∧ p.2 = decide (a.take p.1 = b.take p.1)) (fun p => [(5, .bool p.2), (6, .int .i64 p.1)]) (0, true) (by kernel_rfl) (by simp [upd, ins, subF, lookA]) ⟨rfl, Nat.zero_le _, by simp⟩ ?_
  rintro ⟨i, c⟩ τ ⟨rfl, hi, hc⟩ ih
  simp only at hi hc ih
  cases c
  ·simp -implicitDefEqProofs (maxSteps:=9^9) (disch:=omega) only [go_sem, simprocAttr]
   have : ¬ a = b := fun e => by subst e; simp at hc
   simp [this]
  ·have htk : a.take i = b.take i := by simpa using hc
   by_cases hlt : i < a.length
   ·have hst := same_step hlen hlt htk
    have hia : idx (a.map ints1) (i : Int) = some (ints1 a[i]) := idx_nat hlt
    have hib : idx (b.map ints1) (i : Int) = some (ints1 (b[i]'(by omega))) := idx_nat (by omega)
    have hxl := ha _ (List.getElem_mem hlt)
    have hyl := hb _ (List.getElem_mem (show i < b.length by omega))
    generalize a[i] = x at hst hia hxl
    generalize b[i]'(by omega) = y at hst hib hyl
    clear hc htk
    simp -implicitDefEqProofs (maxSteps:=9^9) (disch:=omega) only [go_sem, simprocAttr, hia, hib, ints1]
    refine ⟨fun h => (ih (i + 1, true) _ (by simp only; omega) ⟨rfl, by simp only; omega, ?_⟩).castS rfl (by simp [upd, ins, subF, lookA]), fun h => (ih (i + 1, false) _ (by simp only; omega) ⟨rfl, by simp only; omega, ?_⟩).castS rfl (by simp [upd, ins, subF, lookA])⟩
    ·simp [hst, h]
    ·simp [hst, h]
   ·have : i = a.length := by omega
    subst this
    simp -implicitDefEqProofs (maxSteps:=9^9) (disch:=omega) only [go_sem, simprocAttr]
    have : a = b := by rwa [List.take_length, hlen, List.take_length] at htk
    simp [this]
 ·have hz : ¬ ((a.length : Int) = b.length) := by omega
  have : ¬ a = b := fun e => hlen (by rw [e])
  simp -implicitDefEqProofs (maxSteps:=9^9) (disch:=omega) only [go_sem, simprocAttr]
  refine ARun.once (Tryz.envOK (S := S) 31 Tryz.ord50 fs408 fs408_ok) (by kernel_rfl) ?_
  simp -implicitDefEqProofs (maxSteps:=9^9) (disch:=omega) only [go_sem, simprocAttr]
  simp [this]
end Go.Proofs
namespace Go.Proofs
open Go Go.Mu Go.Ins
def Tryz.ordSt : Nat → List Nat × List (Nat × List Nat)
 | 6 => ([0, 1, 3, 7, 15, 31, 63, 127, 255, 511, 1023, 2047, 4095, 8191, 16383, 32767, 65535, 131071, 262143, 524287, 1048575, 2097151, 4194303, 8388607, 8388607, 33554431, 67108863, 134217727, 268435455, 268435455, 268435455, 1879048191, 4294967295, 8589934591, 17179869183, 34359738367, 34359738367, 137438953471, 274877906943, 549755813887, 1099511627775, 1099511627775, 4398046511103, 8796093022207, 17592186044415], [(0, []), (1, []), (2, []), (3, []), (4, []), (5, []), (6, []), (7, []), (8, []), (9, []), (10, []), (11, []), (12, []), (13, []), (14, []), (15, []), (16, []), (17, []), (18, []), (19, []), (20, []), (21, []), (22, []), (23, []), (24, [24]), (25, []), (26, []), (27, []), (28, []), (29, []), (30, []), (31, []), (32, []), (33, []), (34, []), (35, []), (36, []), (37, [37]), (38, []), (39, []), (40, []), (41, []), (42, [42]), (43, []), (44, [])])
 | _ => ([], [])
theorem Tryz.ordSt_6 : Tryz.ordSt 6 = ([0, 1, 3, 7, 15, 31, 63, 127, 255, 511, 1023, 2047, 4095, 8191, 16383, 32767, 65535, 131071, 262143, 524287, 1048575, 2097151, 4194303, 8388607, 8388607, 33554431, 67108863, 134217727, 268435455, 268435455, 268435455, 1879048191, 4294967295, 8589934591, 17179869183, 34359738367, 34359738367, 137438953471, 274877906943, 549755813887, 1099511627775, 1099511627775, 4398046511103, 8796093022207, 17592186044415], [(0, []), (1, []), (2, []), (3, []), (4, []), (5, []), (6, []), (7, []), (8, []), (9, []), (10, []), (11, []), (12, []), (13, []), (14, []), (15, []), (16, []), (17, []), (18, []), (19, []), (20, []), (21, []), (22, []), (23, []), (24, [24]), (25, []), (26, []), (27, []), (28, []), (29, []), (30, []), (31, []), (32, []), (33, []), (34, []), (35, []), (36, []), (37, [37]), (38, []), (39, []), (40, []), (41, []), (42, [42]), (43, []), (44, [])]) := rfl
attribute [go_sem] Tryz.ordSt_6
theorem shop_fit : shopR.Fit := ⟨by decide, by decide, by decide +kernel⟩
theorem lone_fit : loneR.Fit := ⟨by decide, by decide, by decide +kernel⟩
theorem steady_p : PureV SBes 26 [] (.bool true) := by
 refine PvE (Tryz.envOK (S := SBes) 80 Tryz.ordSt fs408 fs408_ok) (.bool) Tryz.kp26 Tryz.func26 rfl ?_
 intro σ
 simp -implicitDefEqProofs (maxSteps:=9^9) (disch:=omega) only [go_sem, simprocAttr]
 refine lone_p _ _ ?_
 simp -implicitDefEqProofs (maxSteps:=9^9) (disch:=omega) only [go_sem, simprocAttr]
 refine fewest_p loneR lone_fit _ _ ?_
 rw [lone_few, lone_k rfl]
 simp -implicitDefEqProofs (maxSteps:=9^9) (disch:=omega) only [go_sem, simprocAttr]
 refine shop_p _ _ ?_
 simp -implicitDefEqProofs (maxSteps:=9^9) (disch:=omega) only [go_sem, simprocAttr]
 refine convicts_p shopR shop_fit _ _ ?_
 rw [shop_conv, shop_k rfl]
 simp -implicitDefEqProofs (maxSteps:=9^9) (disch:=omega) only [go_sem, simprocAttr]
 refine shop_p _ _ ?_
 simp -implicitDefEqProofs (maxSteps:=9^9) (disch:=omega) only [go_sem, simprocAttr]
 refine ratesS_p shopR shop_fit 0 shop_rE (by rw [shop_rof]; decide) (by rw [shop_rof]; decide) _ _ ?_
 rw [shop_rL]
 simp -implicitDefEqProofs (maxSteps:=9^9) (disch:=omega) only [go_sem, simprocAttr]
 refine shop_p _ _ ?_
 simp -implicitDefEqProofs (maxSteps:=9^9) (disch:=omega) only [go_sem, simprocAttr]
 refine test_p shopR shop_fit 0 10 44000 _ _ ?_
 rw [shop_tE, shop_tL]
 simp -implicitDefEqProofs (maxSteps:=9^9) (disch:=omega) only [go_sem, simprocAttr]
 refine shop_p _ _ ?_
 simp -implicitDefEqProofs (maxSteps:=9^9) (disch:=omega) only [go_sem, simprocAttr]
 refine trusted_p shopR shop_fit 0 5 (by decide) _ _ ?_
 rw [shop_uE, shop_uL]
 simp -implicitDefEqProofs (maxSteps:=9^9) (disch:=omega) only [go_sem, simprocAttr, Rng.av, ints1]
 refine ACalls.weaken (l' := [.list .no 1 ([[0], [1]].map ints1), .list .no 1 ([[0], [1]].map ints1)]) ⟨⟨rfl, .inl rfl, .inl rfl⟩, ⟨rfl, .inl rfl, .inl rfl⟩, trivial⟩ (hsameLists_p [[0], [1]] [[0], [1]] (by decide) (by decide) (by decide) (by decide) _ _ ?_)
 rw [decide_eq_true rfl]
 simp -implicitDefEqProofs (maxSteps:=9^9) (disch:=omega) only [go_sem, simprocAttr, Rng.av, ints1]
theorem TrueR.fit {H E w : Int} {r : Ros} {rates by_ : List Int} (h : TrueR H E w r rates by_) (hE : E ≤ 5) : r.Fit := by
 have h1 := h.sl
 have h2 := h.el
 refine ⟨by omega, by omega, fun x hx => ?_⟩
 obtain ⟨b, hb⟩ := h.by_at hx
 obtain ⟨t, lo, hi, rds, _, _, g3, g4⟩ := hb.ear
 rw [g4]
 rcases g3 with rfl | rfl <;> simp
theorem mem_setsL {L : List (List Int)} {l : List Int} : l ∈ setsL L ↔ ∃ x ∈ L, l = listN (driftN x) := by
 unfold setsL driftsL
 rw [(isort_perm (le := leL) _).mem_iff, List.mem_map]
 constructor
 ·rintro ⟨s, hs, rfl⟩
  rcases addX_mem.1 hs with h | h
  ·simp at h
  ·obtain ⟨x, hx, rfl⟩ := List.mem_map.1 h
   exact ⟨x, hx, rfl⟩
 ·rintro ⟨x, hx, rfl⟩
  exact ⟨driftN x, addX_mem.2 (.inr (List.mem_map.2 ⟨x, hx, rfl⟩)), rfl⟩
theorem mem_listN {s : Nat} {h : Nat} (hh : h < 4) : (h : Int) ∈ listN s ↔ s.testBit h = true := by
 unfold listN
 rw [List.mem_map]
 constructor
 ·rintro ⟨n, hn, e⟩
  have : n = h := by omega
  subst this
  simpa using (List.mem_filter.1 hn).2
 ·intro hb
  exact ⟨h, List.mem_filter.2 ⟨List.mem_range.2 hh, hb⟩, rfl⟩
theorem mem_drift {x : List Int} {h : Nat} (hh : h < 4) : (h : Int) ∈ listN (driftN x) ↔ tg x h ≠ 0 := by
 rw [mem_listN hh]
 unfold driftN
 rw [bitsOf_test]
 simp [hh]
theorem isHand_of {r : Ros} {h : Nat} (hh : 1 ≤ r.hands ∧ r.hands ≤ 4) (hi : (h : Int) < r.hands) : isHandE r.hands h = 0 := by
 unfold isHandE
 rw [wrap64 (by omega) (by omega), if_pos ⟨by omega, by omega⟩]
theorem known_more {r : Ros} {ws : List Int} (h : knownE r [] = 0) (hz : firstNZ ws = 0) : knownE r ws = 0 := by
 unfold knownE at h ⊢
 by_cases h1 : rosE r ≠ 0
 ·rw [if_pos h1] at h; exact absurd h h1
 ·rw [if_neg h1] at h ⊢
  rw [if_neg (fun c => c hz)]
  rw [if_neg (by show ¬ firstNZ [] ≠ 0; exact fun c => c rfl)] at h
  exact h
end Go.Proofs
namespace Go.Proofs
open Go Go.Mu Go.Shelf
def Tryz.rho20 : Ren := ⟨fun x => if x = 20 then 89 else x, fun x => if x = 0 then 0 else if x = 3 then 3 else if x = 4 then 4 else if x = 22 then 22 else x, fun x => x⟩
theorem Tryz.lays20 : Lays2.n20 Tryz.prog Tryz.rho20 where
 mixed := by kernel_rfl
 f20 := by kernel_rfl
 t0 := by kernel_rfl
 a0 := fun _ => by rfl
 z0 := fun _ => by rfl
 v0 := fun _ => by rfl
 t3 := by kernel_rfl
 a3 := fun _ => by rfl
 z3 := fun _ => by rfl
 v3 := fun _ => by rfl
 t4 := by kernel_rfl
 a4 := fun _ => by rfl
 z4 := fun _ => by rfl
 v4 := fun _ => by rfl
 t22 := by kernel_rfl
 a22 := fun _ => by rfl
 z22 := fun _ => by rfl
 v22 := fun _ => by rfl
 i3 := by kernel_rfl
def Tryz.rho189 : Ren := ⟨fun x => if x = 125 then 142 else if x = 128 then 191 else if x = 129 then 192 else if x = 189 then 88 else if x = 215 then 218 else if x = 216 then 188 else if x = 257 then 141 else if x = 294 then 182 else if x = 295 then 183 else if x = 296 then 184 else if x = 297 then 185 else if x = 298 then 186 else if x = 299 then 187 else if x = 300 then 189 else if x = 301 then 190 else if x = 328 then 219 else if x = 329 then 220 else if x = 330 then 221 else if x = 331 then 222 else if x = 332 then 223 else if x = 343 then 236 else x, fun x => if x = 0 then 0 else if x = 3 then 3 else if x = 4 then 4 else if x = 5 then 5 else if x = 9 then 9 else if x = 28 then 22 else if x = 46 then 117 else if x = 51 then 232 else if x = 53 then 114 else if x = 131 then 207 else if x = 182 then 225 else if x = 183 then 226 else if x = 218 then 262 else if x = 222 then 265 else if x = 228 then 275 else if x = 229 then 156 else x, fun x => x⟩
theorem Tryz.lays189 : Lays.n189 Tryz.prog Tryz.rho189 where
 mixed := by kernel_rfl
 f125 := by kernel_rfl
 f128 := by kernel_rfl
 f129 := by kernel_rfl
 f189 := by kernel_rfl
 f215 := by kernel_rfl
 f216 := by kernel_rfl
 f257 := by kernel_rfl
 f294 := by kernel_rfl
 f295 := by kernel_rfl
 f296 := by kernel_rfl
 f297 := by kernel_rfl
 f298 := by kernel_rfl
 f299 := by kernel_rfl
 f300 := by kernel_rfl
 f301 := by kernel_rfl
 f328 := by kernel_rfl
 f329 := by kernel_rfl
 f330 := by kernel_rfl
 f331 := by kernel_rfl
 f332 := by kernel_rfl
 f343 := by kernel_rfl
 t0 := by kernel_rfl
 a0 := fun _ => by rfl
 z0 := fun _ => by rfl
 v0 := fun _ => by rfl
 t3 := by kernel_rfl
 a3 := fun _ => by rfl
 z3 := fun _ => by rfl
 v3 := fun _ => by rfl
 t4 := by kernel_rfl
 a4 := fun _ => by rfl
 z4 := fun _ => by rfl
 v4 := fun _ => by rfl
 t5 := by kernel_rfl
 a5 := fun _ => by rfl
 z5 := fun _ => by rfl
 v5 := fun _ => by rfl
 t9 := by kernel_rfl
 a9 := fun _ => by rfl
 z9 := fun _ => by rfl
 v9 := fun _ => by rfl
 t28 := by kernel_rfl
 a28 := fun _ => by rfl
 z28 := fun _ => by rfl
 v28 := fun _ => by rfl
 t46 := by kernel_rfl
 a46 := fun _ => by rfl
 z46 := fun _ => by rfl
 v46 := fun _ => by rfl
 t51 := by kernel_rfl
 a51 := fun _ => by rfl
 z51 := fun _ => by rfl
 v51 := fun _ => by rfl
 t53 := by kernel_rfl
 a53 := fun _ => by rfl
 z53 := fun _ => by rfl
 v53 := fun _ => by rfl
 t131 := by kernel_rfl
 a131 := fun _ => by rfl
 z131 := fun _ => by rfl
 v131 := fun _ => by rfl
 t182 := by kernel_rfl
 a182 := fun _ => by rfl
 z182 := fun _ => by rfl
 v182 := fun _ => by rfl
 t183 := by kernel_rfl
 a183 := fun _ => by rfl
 z183 := fun _ => by rfl
 v183 := fun _ => by rfl
 t218 := by kernel_rfl
 a218 := fun _ => by rfl
 z218 := fun _ => by rfl
 v218 := fun _ => by rfl
 t222 := by kernel_rfl
 a222 := fun _ => by rfl
 z222 := fun _ => by rfl
 v222 := fun _ => by rfl
 t228 := by kernel_rfl
 a228 := fun _ => by rfl
 z228 := fun _ => by rfl
 v228 := fun _ => by rfl
 t229 := by kernel_rfl
 a229 := fun _ => by rfl
 z229 := fun _ => by rfl
 v229 := fun _ => by rfl
end Go.Proofs
