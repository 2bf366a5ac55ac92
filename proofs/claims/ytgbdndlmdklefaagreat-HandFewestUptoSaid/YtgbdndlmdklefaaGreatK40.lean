/- Texts of a proof: lemmas. -/
import Derived.Test.YtgbdndlmdklefaaGreatK33
import Derived.Test.YtgbdndlmdklefaaGreatK39
import Derived.Test.YtgbdndlmdklefaaGreatK38
import Derived.Test.YtgbdndlmdklefaaGreatK35
import Derived.Test.YtgbdndlmdklefaaGreatK32
set_option linter.unusedSimpArgs false
set_option linter.unusedVariables false
set_option maxRecDepth 100000
namespace Go.Proofs
open Go Go.Mu Go.Ins
variable {S : MC Tryz.prog}

/-- An entry that may be another one than it truly was. -/
structure OddT (r : Ros) (x : Tn) : Prop where
  day : 0 ≤ x.day ∧ x.day ≤ 12
  hand : -1 ≤ x.hand ∧ x.hand < r.hands
  due : 491 ≤ x.due ∧ x.due ≤ 2030
  ear : ∃ t lo hi rds, (1 ≤ lo ∧ lo ≤ t ∧ t ≤ hi ∧ hi ≤ 100000 ∧ hi - lo ≤ 4) ∧ (rds = [] ∨ rds = [⟨1, 0, 0, 20, ⟨t / 5, t / 5⟩⟩]) ∧ x.ear = ⟨0, [⟨lo, hi⟩], rds⟩
structure OddR (H E : Int) (r : Ros) : Prop where
  hands : 1 ≤ r.hands ∧ r.hands ≤ H
  skill : 0 ≤ r.skill ∧ r.skill ≤ 3
  mn : -3 ≤ r.mn ∧ r.mn ≤ 1
  mx : 1 ≤ r.mx ∧ r.mx ≤ 3
  sl : r.sets.length ≤ 2
  set : ∀ s ∈ r.sets, (0 ≤ s.hand ∧ s.hand < r.hands) ∧ 0 ≤ s.day ∧ s.day ≤ 9
  el : (r.ents.length : Int) ≤ E
  ent : ∀ x ∈ r.ents, OddT r x
theorem OddT.of {r : Ros} {rates : List Int} {x : Tn} {b : Int} (h : TrueT r rates 2 x b) : OddT r x := by
  obtain ⟨t, lo, hi, rds, _, g2, g3, g4⟩ := h.ear
  have hb := h.by_in
  refine ⟨h.day, by rcases h.hand with g | g <;> omega, by have := h.due; omega, t, lo, hi, rds, by omega, g3, g4⟩
theorem OddR.of {H E : Int} {r : Ros} {rates by_ : List Int} (h : TrueR H E 2 r rates by_) : OddR H E r :=
  ⟨h.hands, h.skill, h.mn, h.mx, h.sl, h.set, h.el, fun x hx => by obtain ⟨b, hb⟩ := h.by_at hx; exact .of hb⟩
def dueX (x : Tn) (d : Int) : Tn := { x with due := x.due + d }
def oddX (r : Ros) (i : Nat) (d : Int) : Ros := { r with ents := r.ents.set i (dueX (r.ents.getD i default) d) }
theorem OddR.odd {H E : Int} {r : Ros} {rates by_ : List Int} (h : TrueR H E 2 r rates by_) {i : Nat} (hi : i < r.ents.length) {d : Int} (hd : -9 ≤ d ∧ d ≤ 30) : OddR H E (oddX r i d) := by
  have h0 := OddR.of h
  refine ⟨h0.hands, h0.skill, h0.mn, h0.mx, h0.sl, h0.set, by show ((r.ents.set i _).length : Int) ≤ E; rw [List.length_set]; exact h0.el, fun x hx => ?_⟩
  rcases List.mem_or_eq_of_mem_set hx with g | g
  · obtain ⟨g1, g2, g3, g4⟩ := h0.ent x g
    exact ⟨g1, g2, g3, g4⟩
  · obtain ⟨b, hb⟩ := h.by_at (List.getElem_mem hi)
    have hg : r.ents.getD i default = r.ents[i] := by simp [List.getD, List.getElem?_eq_getElem hi]
    rw [hg] at g
    have ho := OddT.of hb
    have hdu := hb.due
    subst g
    exact ⟨ho.day, ho.hand, by show 491 ≤ r.ents[i].due + d ∧ r.ents[i].due + d ≤ 2030; omega, ho.ear⟩
theorem oddT_chk {r : Ros} {x : Tn} (h : OddT r x) : (chkE x r.hands).2 = 0 := by
  obtain ⟨t, lo, hi, rds, g2, g3, g4⟩ := h.ear
  have hd := h.day
  have hh := h.hand
  have hdu := h.due
  obtain ⟨day, hand, due, ear⟩ := x
  simp only at g4 hd hh hdu ⊢
  subst g4
  have hck : ck ⟨0, [⟨lo, hi⟩], rds⟩ = 0 := by
    unfold ck
    have hT : firstE ckT [(⟨lo, hi⟩ : Rng)] = 0 := by
      refine hfirstE_of (fun y hy => ?_)
      simp at hy; subst hy
      unfold ckT
      dsimp only
      repeat' split
      all_goals omega
    have hR : firstE (fun r => ckR r (1 : Nat)) rds = 0 := by
      refine hfirstE_of (fun y hy => ?_)
      rcases g3 with rfl | rfl
      · simp at hy
      · simp at hy; subst hy
        unfold ckR
        simp only
        repeat' split
        all_goals omega
    have hl : rds.length ≤ 1 := by rcases g3 with rfl | rfl <;> simp
    simp only [List.length_cons, List.length_nil, Nat.zero_add]
    rw [if_neg (by omega), if_neg (by omega), if_neg (by omega), if_neg (fun c => c hT), if_neg (by omega)]
    exact hR
  have htm : [t, 0, 0] ∈ truthsL ⟨0, [⟨lo, hi⟩], rds⟩ := by
    rw [truthsL_one, List.mem_flatMap]
    refine ⟨(t - lo).toNat, List.mem_range.2 (by omega), ?_⟩
    have hts : setI [0, 0, 0] ((0 : Nat) : Int) (lo + ((t - lo).toNat : Int)) = [t, 0, 0] := by
      rw [show lo + ((t - lo).toNat : Int) = t by omega]; rfl
    have hal : (rds.all fun r => isR r 0 [t, 0, 0]) = true := by
      rcases g3 with rfl | rfl
      · rfl
      · simp only [List.all_cons, List.all_nil, Bool.and_true, isR, if_true, tg]
        exact decide_eq_true (by
          have : ([t, 0, 0] : List Int).getD (Int.toNat 0) 0 = t := rfl
          rw [this]; omega)
    rw [hts]
    show [t, 0, 0] ∈ if (rds.all fun r => isR r 0 [t, 0, 0]) = true then [[t, 0, 0]] else []
    rw [if_pos hal]; simp
  have hn : truthsL ⟨0, [⟨lo, hi⟩], rds⟩ ≠ [] := List.ne_nil_of_mem htm
  rw [chkE_one (by simp only; omega) (by simp only; omega) (by simp only; omega) hck rfl hn]
theorem OddR.head {H E : Int} {r : Ros} (h : OddR H E r) (hH : H ≤ 4) (hE : E ≤ 5) : headE r = 0 := by
  have h1 := h.hands
  have h2 := h.skill
  have h3 := h.mn
  have h4 := h.mx
  have h5 := h.sl
  have h6 := h.el
  have hs : firstE (setE r.hands) r.sets = 0 := hfirstE_of fun s hs => by
    have := h.set s hs
    unfold setE
    rw [if_neg (by omega), if_neg (by omega)]
  unfold headE
  rw [if_neg (by omega), if_neg (by omega), if_neg (by omega), if_neg (fun c => c hs), if_neg (by omega)]
theorem OddR.entE {H E : Int} {r : Ros} (h : OddR H E r) : entsE r = 0 := by
  unfold entsE
  refine firstNZ_zero fun e he => ?_
  obtain ⟨x, hx, rfl⟩ := List.mem_map.1 he
  exact oddT_chk (h.ent x hx)
theorem OddR.fit {H E : Int} {r : Ros} (h : OddR H E r) (hE : E ≤ 5) : r.Fit := by
  have h5 := h.sl
  have h6 := h.el
  refine ⟨by omega, by omega, fun x hx => ?_⟩
  obtain ⟨t, lo, hi, rds, _, g3, g4⟩ := (h.ent x hx).ear
  rw [g4]
  refine ⟨by simp, ?_⟩
  rcases g3 with rfl | rfl <;> simp
theorem OddR.good {H E : Int} {r : Ros} (h : OddR H E r) (hH : H ≤ 4) (hE : E ≤ 5) : r.Good := Ros.good_of (h.head hH hE) h.entE
/-- A result's part is written into no more. -/
theorem _root_.Go.Mu.ACalls.frozeG {P : Program} {S : MC P} {f : FuncId} {args : List AV} {σ : List AObj} {Q : AV → List AObj → Prop}
    (h : ACalls S f args σ fun v σ' => ∃ vs k r sz xs, v = .agg vs ∧ vs[k]? = some (.vec r xs.length) ∧ hget σ' r = some (.vec sz xs) ∧ Q (.agg (vs.set k (.list .no sz xs))) (hset σ' r .dead)) : ACalls S f args σ Q := by
  refine ⟨h.1, fun M hM K w V cargs kd cs hR hO hV => M.bind (h.2 M hM K w V cargs kd cs hR hO hV) ?_⟩
  rintro g' w' V' ⟨fr, v, σ', K', e1, e2, e3, hl, ⟨vs, k, r, sz, xs, rfl, hk, hg, hq⟩, hR', hO', hS⟩
  obtain ⟨K2, r1, r2, hv2⟩ := hR'.freeze hg
  refine M.ret ⟨fr, _, _, K2, e1, e2, e3, hl.mono fun c hv => ?_, hq, r1, hO'.mind hR' r1 r2, hS.trans (.of_mind r2)⟩
  rw [hsl_dead]
  cases hv with
  | agg _ cs' hl h1 hh =>
    obtain ⟨hkl, hke⟩ := List.getElem?_eq_some_iff.1 hk
    refine .agg _ cs' (by simpa using hl) h1 fun i h1 h2 => ?_
    by_cases e : k = i
    · subst e
      rw [List.getElem_set_self]
      have := hh k hkl h2
      rw [hke] at this
      exact hv2 _ this
    · rw [List.getElem_set_ne e]
      exact (hh i (by simpa using h1) h2).mono r2.ext (Nat.le_refl _)
set_option maxHeartbeats 8000000 in
theorem odd_c (p : Nat) (H E : Int) (hH : 1 ≤ H ∧ H ≤ 4) (hE : 0 ≤ E ∧ E ≤ 5) (σ : List AObj) (hp : PotAt σ p) (Q : AV → List AObj → Prop) (h : ∀ s' r junk, OddR H E r → Q r.av (pw σ p s' ++ junk)) :
    ACalls S 52 [.ptr p 0, .int .i64 H, .int .i64 E] σ Q := by
  refine ACalls.frozeG ?_
  refine ACalls.of_ev (E := Tryz.E (S := S) 46 Tryz.ord52 fs0) (Tryz.envOK (S := S) 46 Tryz.ord52 fs0 fs0_ok) Tryz.kp52 Tryz.func52 rfl (by kernel_rfl) (by simp [Tryz.E]) (Callable.of Tryz.func52 (by kernel_rfl) (by kernel_rfl)) (by kernel_rfl) ?_
  have hpl := hp.lt1
  simp -implicitDefEqProofs (maxSteps := 2000000) (disch := omega) only [go_sem, simprocAttr]
  refine rosterOf_v p H E 2 hH hE (by omega) _ hp.app1 _ fun s1 r rates by_ o1 o2 o3 o4 o5 o6 j hT => ?_
  rw [hpw_app hpl]
  simp only [Ros.avv, truAV, ints1, List.append_assoc, List.cons_append, List.nil_append, List.length_append, List.length_cons, List.length_nil, Nat.zero_add, Nat.reduceAdd, Nat.add_assoc]
  have hR1 : ∀ s R T V, hget (pw σ p s ++ (AObj.cells [.int .i64 0, .int .i64 0, .int .i64 0, .int .i64 0, .list .full 0 [], .list .full 0 []] :: o1 :: o2 :: o3 :: o4 :: o5 :: o6 :: V :: (j ++ [R, T]))) (σ.length + (8 + j.length)) = some R := fun s R T V => by
    rw [hhget_pw]; simp [show 8 + j.length = j.length + 8 by omega]
  have hel := hT.el
  have hav : (⟨r.hands, r.skill, r.mn, r.mx, r.sets, r.ents⟩ : Ros) = r := rfl
  have hO := OddR.of hT
  by_cases hn : 0 < (r.ents.length : Int)
  · have hn' : (0 < (r.ents.length : Int)) = True := eq_true hn
    have hwn : IntKind.i64.wrap ((r.ents.length : Int) - 1) = (r.ents.length : Int) - 1 := wrap64 (by omega) (by omega)
    simp -implicitDefEqProofs (maxSteps := 2000000) (disch := omega) only [go_sem, simprocAttr, hlength_pw, hhget_pw0, hhget_pw, hhset_pw0, hhset_pw, hR1, hn']
    refine odds_c p 1 2 (by omega) (by omega) _ (hp.pw _).app1 _ fun s2 q1 => ?_
    rw [hpw_pwa hpl]
    cases q1
    · simp -implicitDefEqProofs (maxSteps := 2000000) (disch := omega) only [go_sem, simprocAttr, hlength_pw, hhget_pw0, hhget_pw, hhset_pw0, hhset_pw, hR1, hn']
      refine ⟨_, 5, σ.length + 7, 6, r.ents.map Tn.av, rfl, by simp, by rw [hhget_pw]; rfl, ?_⟩
      rw [hhset_pw]
      exact h s2 r _ hO
    · simp -implicitDefEqProofs (maxSteps := 2000000) (disch := omega) only [go_sem, simprocAttr, hlength_pw, hhget_pw0, hhget_pw, hhset_pw0, hhset_pw, hR1, hn', hwn]
      refine upto_c p ((r.ents.length : Int) - 1) (by omega) _ (hp.pw _).app1 _ fun s3 x x1 x2 => ?_
      rw [hpw_pwa hpl]
      have hx : 0 ≤ x ∧ x < (r.ents.length : Int) := by omega
      clear x1 x2
      obtain ⟨i, rfl⟩ : ∃ i : Nat, x = i := ⟨x.toNat, by omega⟩
      have hi : i < r.ents.length := by omega
      have hgx : (r.ents.map Tn.av)[i]? = some (Tn.av (r.ents.getD i default)) := by simp [List.getD, List.getElem?_eq_getElem hi]
      have hdu : 491 ≤ (r.ents.getD i default).due ∧ (r.ents.getD i default).due ≤ 2030 := by
        have hg : r.ents.getD i default = r.ents[i] := by simp [List.getD, List.getElem?_eq_getElem hi]
        rw [hg]; exact (hO.ent _ (List.getElem_mem hi)).due
      have hOd := fun d hd => OddR.odd hT hi (d := d) hd
      have hset : ∀ d, (r.ents.map Tn.av).set i (Tn.av (dueX (r.ents.getD i default) d)) = (oddX r i d).ents.map Tn.av := fun d => by unfold oddX; rw [List.map_set]
      obtain ⟨t, ht⟩ : ∃ t, t = r.ents.getD i default := ⟨_, rfl⟩
      rw [← ht] at hgx hdu hset
      have hav : t.av = .agg t.cells := rfl
      simp only [hav, Tn.cells] at hgx
      simp -implicitDefEqProofs (maxSteps := 2000000) (disch := omega) only [go_sem, simprocAttr, hlength_pw, hhget_pw0, hhget_pw, hhset_pw0, hhset_pw, hR1, hgx]
      refine of_c p [-9, 4, 9, 30] .full (by simp) _ (hp.pw _).app1 _ fun s4 x hx4 => ?_
      rw [hpw_pwa hpl]
      have hx5 : -9 ≤ x ∧ x ≤ 30 := by simp at hx4; omega
      have hwx : IntKind.i64.wrap (t.due + x) = t.due + x := wrap64 (by omega) (by omega)
      have hse := hset x
      have hsx : (dueX t x).av = .agg [.int .i64 t.day, .int .i64 t.hand, .int .i64 (t.due + x), .int .i64 t.ear.slack, .list .no 2 (t.ear.tones.map Rng.av), .list .no 6 (t.ear.rds.map Rd.av)] := rfl
      rw [hsx] at hse
      simp -implicitDefEqProofs (maxSteps := 2000000) (disch := omega) only [go_sem, simprocAttr, hlength_pw, hhget_pw0, hhget_pw, hhset_pw0, hhset_pw, hR1, hgx, hwx, hse]
      have hlo : ((oddX r i x).ents.map Tn.av).length = r.ents.length := by simp [oddX]
      refine ⟨_, 5, σ.length + 7, 6, (oddX r i x).ents.map Tn.av, rfl, by rw [hlo]; rfl, by rw [hhget_pw]; rfl, ?_⟩
      rw [hhset_pw]
      exact h s4 (oddX r i x) _ (hOd x hx5)
  · have hn' : (0 < (r.ents.length : Int)) = False := eq_false hn
    simp -implicitDefEqProofs (maxSteps := 2000000) (disch := omega) only [go_sem, simprocAttr, hlength_pw, hhget_pw0, hhget_pw, hhset_pw0, hhset_pw, hR1, hn']
    refine ⟨_, 5, σ.length + 7, 6, r.ents.map Tn.av, rfl, by simp, by rw [hhget_pw]; rfl, ?_⟩
    rw [hhset_pw]
    exact h s1 r _ hO
end Go.Proofs
set_option linter.unusedSimpArgs false
set_option linter.unusedVariables false
set_option maxRecDepth 100000
namespace Go.Proofs
open Go Go.Mu Go.Ins

/-- A list of hands as a set. -/
def setN (l : List Int) : Nat := l.foldl (fun s h => s ||| 2 ^ h.toNat) 0
theorem setN_succ {l : List Int} {i : Nat} (hi : i < l.length) : setN (l.take (i + 1)) = setN (l.take i) ||| 2 ^ l[i].toNat := by
  unfold setN; rw [List.take_succ_eq_append_getElem hi, List.foldl_append]; rfl
theorem setN_lt {l : List Int} {n : Nat} (h : ∀ x ∈ l, 0 ≤ x ∧ x < n) : setN l < 2 ^ n := by
  have key : ∀ (l : List Int) (s : Nat), s < 2 ^ n → (∀ x ∈ l, 0 ≤ x ∧ x < (n : Int)) → l.foldl (fun s h => s ||| 2 ^ h.toNat) s < 2 ^ n := by
    intro l
    induction l with
    | nil => intro s hs _; exact hs
    | cons x l ih =>
      intro s hs hx
      have := hx x (by simp)
      exact ih _ (Nat.or_lt_two_pow hs (Nat.pow_lt_pow_right (by omega) (by omega))) fun y hy => hx y (by simp [hy])
  exact key l 0 (Nat.two_pow_pos n) h
set_option maxHeartbeats 8000000 in
theorem explains_p (r : Ros) (hf : r.Fit) (hg : r.Good) (hh0 : headE r = 0) (he0 : entsE r = 0) (l : List Int) (hl : ∀ x ∈ l, 0 ≤ x ∧ x < r.hands) (hn : l.length ≤ 1000) (ha : l.Pairwise (· < ·)) :
    PureV SBes 47 [r.av, ints1 l] (.tup [.bool (decide (htruthsR r (entsL r) (setN l) ≠ [])), .int .i64 0]) := by
  refine PureV.of_ev (E := Tryz.E (S := SBes) 54 (fun _ => ([], [])) fs405) (Tryz.envOK (S := SBes) 54 (fun _ => ([], [])) fs405 fs405_ok) (.tup (by simp only [List.mem_cons, List.not_mem_nil, or_false, forall_eq_or_imp, forall_eq]; exact ⟨.bool, .int⟩)) Tryz.kp47 Tryz.func47 rfl (by kernel_rfl) (by simp [Tryz.E]) (Callable.of Tryz.func47 (by kernel_rfl) (by kernel_rfl)) (by kernel_rfl) ?_
  intro σ
  have hhd := hg.hands
  have hH : (r.hands.toNat : Int) = r.hands := by omega
  have hlt : ∀ i, setN (l.take i) < 16 := fun i => by
    have h1 := setN_lt (l := l.take i) (n := r.hands.toNat) fun x hx => by rw [hH]; exact hl x (List.mem_of_mem_take hx)
    have hp : (2 : Nat) ^ r.hands.toNat ≤ 2 ^ 4 := Nat.pow_le_pow_right (by omega) (by omega)
    omega
  simp only [Ros.av, ints1]
  simp -implicitDefEqProofs (maxSteps := 2000000) (disch := omega) only [go_sem, simprocAttr]
  refine rosterOf_ok r hh0 (by have := hf.sets; omega) (hf.ok hh0) _ _ ?_
  rw [he0]
  simp only [Ros.wav]
  simp -implicitDefEqProofs (maxSteps := 2000000) (disch := omega) only [go_sem, simprocAttr]
  refine ARun.forS (Tryz.envOK (S := SBes) 54 (fun _ => ([], [])) fs405 fs405_ok) l.length (fun _ => True) (fun i => [(8, .int .u64 (setN (l.take i))), (21, .int .i64 i)]) (fun _ _ => σ ++ [.cells [.int .i64 r.hands, .int .i64 r.skill, .int .i64 r.mn, .int .i64 r.mx, .list .no 2 (r.sets.map Sg.av), .list .no 6 (r.ents.map Tn.av)], .cells (r.wcells (entsL r))]) [] (by kernel_rfl) (by simp [Ros.wcells]) (by simp [upd, ins, subF, lookA, setN]) trivial ?_ ?_
  · intro i j hi _ ih
    have hidx : idx (l.map (AV.int .i64)) (i : Int) = some (.int .i64 l[i]) := by rw [idx_nat hi]
    have hx := hl _ (List.getElem_mem hi)
    have hs := hlt i
    rw [setN_succ hi] at ih
    have hxn : ((l[i].toNat : Nat) : Int) = l[i] := by omega
    have hpr : 0 < i → ∃ y, idx (l.map (AV.int .i64)) ((i : Int) - 1) = some (.int .i64 y) ∧ y < l[i] := fun h0 => by
      refine ⟨l[i - 1], ?_, List.pairwise_iff_getElem.1 ha (i - 1) i (by omega) hi (by omega)⟩
      rw [show (i : Int) - 1 = ((i - 1 : Nat) : Int) by omega, idx_nat (by omega)]
    generalize setN (l.take i) = s at hs ih ⊢
    generalize l[i] = x at *
    obtain ⟨n, rfl⟩ : ∃ n : Nat, x = n := ⟨x.toNat, by omega⟩
    rw [Int.toNat_natCast] at ih
    have hn4 : n < 4 := by omega
    have hwh : IntKind.i64.wrap (r.hands - 1) = r.hands - 1 := wrap64 (by omega) (by omega)
    have hwi : IntKind.i64.wrap ((i : Int) - 1) = (i : Int) - 1 := wrap64 (by omega) (by omega)
    have hin1 : ((n : Int) ≤ r.hands - 1) = True := eq_true (by omega)
    by_cases h0 : 0 < i
    · obtain ⟨y, hy, hyx⟩ := hpr h0
      have h0' : (0 < (i : Int)) = True := eq_true (by omega)
      have hyx' : ((n : Int) ≤ y) = False := eq_false (by omega)
      simp -implicitDefEqProofs (maxSteps := 2000000) (disch := omega) only [go_sem, simprocAttr, hidx, hwh, hin1, h0', hwi, hy, hyx']
      exact (ih trivial []).castS (by simp [Ros.wcells]) (by simp [upd, ins, subF, lookA])
    · have h0' : (0 < (i : Int)) = False := eq_false (by omega)
      simp -implicitDefEqProofs (maxSteps := 2000000) (disch := omega) only [go_sem, simprocAttr, hidx, hwh, hin1, h0']
      exact (ih trivial []).castS (by simp [Ros.wcells]) (by simp [upd, ins, subF, lookA])
  · intro j _
    rw [List.take_length]
    have hs := hlt l.length
    rw [List.take_length] at hs
    have hlen := htruthsR_len hg.toHead (ds := entsL r) (s := setN l)
    have hmap : ((htruthsR r (entsL r) (setN l)).map rtv).length = (htruthsR r (entsL r) (setN l)).length := by simp
    have hde : (0 < ((htruthsR r (entsL r) (setN l)).length : Int)) ↔ htruthsR r (entsL r) (setN l) ≠ [] := by
      rw [← List.length_pos_iff]; omega
    have hde2 : decide (0 < ((htruthsR r (entsL r) (setN l)).length : Int)) = decide (htruthsR r (entsL r) (setN l) ≠ []) := by simp only [hde]
    simp -implicitDefEqProofs (maxSteps := 2000000) (disch := omega) only [go_sem, simprocAttr, Ros.wcells]
    refine htruths_p r (entsL r) hg.work (setN l) hs _ _ ?_
    generalize htruthsR r (entsL r) (setN l) = T at hmap hde hde2 hlen ⊢
    simp -implicitDefEqProofs (maxSteps := 2000000) (disch := omega) only [go_sem, simprocAttr, hmap, hde2]
    by_cases hz : T = [] <;> simp [hz]
end Go.Proofs
set_option linter.unusedSimpArgs false
set_option linter.unusedVariables false
set_option maxRecDepth 100000
namespace Go.Proofs
open Go Go.Mu
variable {S : MC Tryz.prog}

/-- Lists of so many hands, ascending, from a on and below n. -/
def hcomb (n : Nat) : Nat → Nat → List (List Int)
  | 0, _ => [[]]
  | m + 1, a => (List.range (n - a)).flatMap fun k => (hcomb n m (a + k + 1)).map fun l => ((a + k : Nat) : Int) :: l
def hcombK (n m a k : Nat) : List (List Int) := (hcomb n m (a + k + 1)).map fun l => ((a + k : Nat) : Int) :: l
theorem hcomb_succ {n m a : Nat} : hcomb n (m + 1) a = (List.range (n - a)).flatMap (hcombK n m a) := rfl
theorem hcomb_mem {n : Nat} : ∀ {m a : Nat} {l : List Int}, l ∈ hcomb n m a → l.length = m ∧ (∀ x ∈ l, (a : Int) ≤ x ∧ x < n) ∧ l.Pairwise (· < ·)
  | 0, a, l, h => by simp [hcomb] at h; subst h; simp
  | m + 1, a, l, h => by
    obtain ⟨k, hk, h2⟩ := List.mem_flatMap.1 h
    obtain ⟨u, hu, rfl⟩ := List.mem_map.1 h2
    obtain ⟨h3, h4, h5⟩ := hcomb_mem hu
    have hk' := List.mem_range.1 hk
    refine ⟨by simp [h3], fun x hx => ?_, ?_⟩
    · rcases List.mem_cons.1 hx with rfl | hx
      · omega
      · have := h4 x hx; omega
    · rw [List.pairwise_cons]
      exact ⟨fun y hy => by have := h4 y hy; omega, h5⟩
theorem hcomb_len {n : Nat} : ∀ {m a : Nat}, (hcomb n m a).length ≤ (n + 1) ^ m
  | 0, a => by simp [hcomb]
  | m + 1, a => by
    simp only [hcomb]
    refine Nat.le_trans (fmLen (B := (n + 1) ^ m) (fun k => by rw [List.length_map]; exact hcomb_len) _) ?_
    rw [Nat.pow_succ, Nat.mul_comm ((n + 1) ^ m)]
    exact Nat.mul_le_mul_right _ (by omega)
theorem hcomb_len4 {n m a : Nat} (hn : n ≤ 4) (hm : m ≤ 4) : (hcomb n m a).length ≤ 625 := by
  refine Nat.le_trans hcomb_len (Nat.le_trans (Nat.pow_le_pow_left (show n + 1 ≤ 5 by omega) m) (Nat.le_trans (Nat.pow_le_pow_right (by omega) hm) (by decide)))
def htss (L : List (List Int)) : AV := .list .no 1 (L.map ints1)
theorem htss_plain (L : List (List Int)) : Plain (htss L) := .map fun x _ => Plain.cells_list (ints1_good x).2
set_option maxHeartbeats 8000000 in
theorem hchoices_p (n : Nat) (hn : n ≤ 4) : ∀ (m a : Nat), m ≤ 4 → a ≤ 5 → PureV S 53 [.int .i64 a, .int .i64 n, .int .i64 m] (htss (hcomb n m a)) := by
  intro m
  induction m with
  | zero =>
    intro a hm ha
    refine PureV.of_ev (E := Tryz.E (S := S) 43 (fun _ => ([], [])) fs0) (Tryz.envOK (S := S) 43 (fun _ => ([], [])) fs0 fs0_ok) (htss_plain _) Tryz.kp53 Tryz.func53 rfl (by kernel_rfl) (by simp [Tryz.E]) (Callable.of Tryz.func53 (by kernel_rfl) (by kernel_rfl)) (by kernel_rfl) ?_
    intro σ
    simp -implicitDefEqProofs (maxSteps := 2000000) (disch := omega) only [go_sem, simprocAttr, htss, hcomb, ints1, List.map_nil]
  | succ m ih =>
    intro a hm ha
    refine PureV.of_ev (E := Tryz.E (S := S) 43 (fun _ => ([], [])) fs0) (Tryz.envOK (S := S) 43 (fun _ => ([], [])) fs0 fs0_ok) (htss_plain _) Tryz.kp53 Tryz.func53 rfl (by kernel_rfl) (by simp [Tryz.E]) (Callable.of Tryz.func53 (by kernel_rfl) (by kernel_rfl)) (by kernel_rfl) ?_
    intro σ
    rw [hcomb_succ]
    have hbd : ∀ i, ((List.range i).flatMap (hcombK n m a)).length ≤ i * 625 := fun i => fmLen (fun k => by unfold hcombK; rw [List.length_map]; exact hcomb_len4 hn (by omega)) i
    simp -implicitDefEqProofs (maxSteps := 2000000) (disch := omega) only [go_sem, simprocAttr]
    refine ARun.ghost 7 1 (sz0 := 0) rfl (by simp [lookA]) ?_
    simp only [ins, ↓reduceIte, List.append_assoc, List.cons_append, List.nil_append, List.length_append, List.length_cons, List.length_nil, Nat.zero_add, Nat.reduceEqDiff, Nat.reduceAdd]
    refine ARun.forS (Tryz.envOK (S := S) 43 (fun _ => ([], [])) fs0 fs0_ok) (n - a) (fun _ => True) (fun i => [(7, .list (.own σ.length) 1 (((List.range i).flatMap (hcombK n m a)).map ints1)), (8, .int .i64 ((a : Int) + i))]) (fun i j => σ ++ (.tail ((List.range i).flatMap (hcombK n m a)).length 1 :: j)) [] (by kernel_rfl) (by simp) (by simp [upd, ins, subF, lookA]) trivial ?_ ?_
    · intro i j hi _ ih2
      have hb := hbd i
      have hC : (hcomb n m (a + i + 1)).length ≤ 625 := hcomb_len4 hn (by omega)
      have ih' := ih (a + i + 1) (by omega) (by omega)
      have hfs : (List.range (i + 1)).flatMap (hcombK n m a) = (List.range i).flatMap (hcombK n m a) ++ hcombK n m a i := by rw [List.range_succ, List.flatMap_append]; simp
      rw [hfs] at ih2
      have hK : hcombK n m a i = (hcomb n m (a + i + 1)).map fun l => ((a + i : Nat) : Int) :: l := rfl
      rw [hK, show ((a + i : Nat) : Int) = (a : Int) + i by omega] at ih2
      rw [show ((a + i + 1 : Nat) : Int) = (a : Int) + i + 1 by omega] at ih'
      have hel : ∀ l ∈ hcomb n m (a + i + 1), l.length ≤ 6 := fun l hl => by rw [(hcomb_mem hl).1]; omega
      clear hK hbd ih hfs
      generalize (List.range i).flatMap (hcombK n m a) = B at hb ih2 ⊢
      generalize hcomb n m (a + i + 1) = C at hC ih2 ih' hel
      have hb2 : B.length ≤ 10000 := by omega
      clear hb
      simp -implicitDefEqProofs (maxSteps := 2000000) (disch := omega) only [go_sem, simprocAttr, Int.add_sub_cancel]
      refine ih' _ _ ?_
      simp only [htss]
      simp -implicitDefEqProofs (maxSteps := 2000000) (disch := omega) only [go_sem, simprocAttr]
      refine ARun.forS (Tryz.envOK (S := S) 43 (fun _ => ([], [])) fs0 fs0_ok) C.length (fun _ => True) (fun k => [(7, .list (.own σ.length) 1 ((B ++ (C.take k).map fun l => ((a : Int) + i) :: l).map ints1)), (10, .int .i64 k)]) (fun k j2 => σ ++ (.tail (B ++ (C.take k).map fun l => ((a : Int) + i) :: l).length 1 :: (j ++ j2))) [] (by kernel_rfl) (by simp) (by simp [upd, ins, subF, lookA]) trivial ?_ ?_
      · intro k j2 hk _ ih3
        have hCk : idx (C.map ints1) (k : Int) = some (ints1 C[k]) := idx_nat hk
        have hl := hel _ (List.getElem_mem hk)
        have hDl : (B ++ (C.take k).map fun l => ((a : Int) + i) :: l).length ≤ 20000 := by rw [List.length_append, List.length_map, List.length_take]; omega
        have hst : (B ++ (C.take (k + 1)).map fun l => ((a : Int) + i) :: l) = (B ++ (C.take k).map fun l => ((a : Int) + i) :: l) ++ [((a : Int) + i) :: C[k]] := by
          rw [List.take_succ_eq_append_getElem hk, List.map_append, ← List.append_assoc]; rfl
        rw [hst] at ih3
        clear hst
        generalize (B ++ (C.take k).map fun l => ((a : Int) + i) :: l) = D at hDl ih3 ⊢
        generalize C[k] = T at hCk hl ih3
        simp only [ints1] at hCk
        clear ih' ih2 hel
        simp -implicitDefEqProofs (maxSteps := 2000000) (disch := omega) only [go_sem, simprocAttr, hCk]
        exact (ih3 trivial (j2 ++ [.tail (1 + T.length) 1])).castS (by simp) (by simp [upd, ins, subF, lookA, ints1])
      · intro j2 _
        rw [List.take_length]
        generalize (B ++ C.map fun l => ((a : Int) + i) :: l) = D at ih2 ⊢
        simp -implicitDefEqProofs (maxSteps := 2000000) (disch := omega) only [go_sem, simprocAttr]
        exact (ih2 trivial (j ++ j2)).castS rfl (by simp [upd, ins, subF, lookA, Int.add_assoc])
    · intro j _
      generalize (List.range (n - a)).flatMap (hcombK n m a) = B
      have e : (a : Int) + ((n - a : Nat) : Int) = if a ≤ n then (n : Int) else a := by split <;> omega
      simp -implicitDefEqProofs (maxSteps := 2000000) (disch := omega) only [go_sem, simprocAttr, htss]
end Go.Proofs
set_option linter.unusedSimpArgs false
set_option linter.unusedVariables false
set_option maxRecDepth 100000
namespace Go.Proofs
open Go Go.Mu Go.Ins

theorem comb_set1 : ∀ n < 5, ∀ m < 5, ∀ x ∈ hcomb n m 0, setN x < 2 ^ n ∧ popF (setN x) = m ∧ listN (setN x) = x := by decide +kernel
theorem comb_set2 : ∀ n < 5, ∀ s < 2 ^ n, listN s ∈ hcomb n (popF s) 0 ∧ setN (listN s) = s := by decide +kernel
theorem comb_set : ∀ n < 5, ∀ m < 5, (∀ x ∈ hcomb n m 0, setN x < 2 ^ n ∧ popF (setN x) = m ∧ listN (setN x) = x) ∧ (∀ s < 2 ^ n, popF s = m → listN s ∈ hcomb n m 0 ∧ setN (listN s) = s) := fun n hn m hm =>
  ⟨comb_set1 n hn m hm, fun s hs e => by have := comb_set2 n hn s hs; rw [e] at this; exact this⟩
theorem comb_ord : ∀ n < 5, ∀ m < 5, (hcomb n m 0).Nodup ∧ (hcomb n m 0).Pairwise (fun a b => cmpL a b ≤ 0) := by decide +kernel
theorem list_set : ∀ s < 16, setN (listN s) = s := by decide +kernel
/-- The lists of so many hands that explain. -/
def hdue (r : Ros) (m : Nat) : List (List Int) := (hcomb r.hands.toNat m 0).filter fun l => decide (htruthsR r (entsL r) (setN l) ≠ [])
theorem found_due {r : Ros} (hr : r.Head) {m : Nat} (hm : m ≤ r.hands.toNat) : foundR r (entsL r) m = [] ↔ hdue r m = [] := by
  have hh := hr.hands
  obtain ⟨c1, c2⟩ := comb_set r.hands.toNat (by omega) m (by omega)
  have hp : (2 : Nat) ^ r.hands.toNat ≤ 2 ^ 4 := Nat.pow_le_pow_right (by omega) (by omega)
  constructor
  · intro h
    unfold hdue
    rw [List.filter_eq_nil_iff]
    intro x hx hd
    obtain ⟨g1, g2, _⟩ := c1 x hx
    obtain ⟨u, hu⟩ := List.exists_mem_of_ne_nil _ (of_decide_eq_true hd)
    have := (foundR_mem hr (m := m)).2 ⟨setN x, g1, by rw [← popF_eq _ (by omega)]; exact g2, hu⟩
    rw [h] at this; simp at this
  · intro h
    refine List.eq_nil_iff_forall_not_mem.2 fun u hu => ?_
    obtain ⟨s, g1, g2, g3⟩ := (foundR_mem hr).1 hu
    obtain ⟨k1, k2⟩ := c2 s g1 (by rw [popF_eq _ (by omega)]; exact g2)
    have : listN s ∈ hdue r m := List.mem_filter.2 ⟨k1, decide_eq_true (by rw [k2]; exact List.ne_nil_of_mem g3)⟩
    rw [h] at this; simp at this
theorem sets_due {r : Ros} (hr : r.Head) {m : Nat} (hm : m ≤ r.hands.toNat) (he : explR r (entsL r) = (foundR r (entsL r) m).foldl addX []) : setsL (explR r (entsL r)) = hdue r m := by
  have hh := hr.hands
  obtain ⟨c1, c2⟩ := comb_set r.hands.toNat (by omega) m (by omega)
  obtain ⟨o1, o2⟩ := comb_ord r.hands.toNat (by omega) m (by omega)
  have hp : (2 : Nat) ^ r.hands.toNat ≤ 2 ^ 4 := Nat.pow_le_pow_right (by omega) (by omega)
  have hdl : ∀ s, s ∈ driftsL (explR r (entsL r)) ↔ s < 2 ^ r.hands.toNat ∧ popN s = m ∧ htruthsR r (entsL r) s ≠ [] := fun s => by
    unfold driftsL
    rw [addX_mem, List.mem_map]
    constructor
    · rintro (h | ⟨u, hu, rfl⟩)
      · simp at h
      · obtain ⟨g1, g2, g3⟩ := found_pop hr ((explR_iff he).1 hu)
        exact ⟨g2, g1, List.ne_nil_of_mem g3⟩
    · rintro ⟨g1, g2, g3⟩
      obtain ⟨u, hu⟩ := List.exists_mem_of_ne_nil _ g3
      exact .inr ⟨u, (explR_iff he).2 ((foundR_mem hr).2 ⟨s, g1, g2, hu⟩), driftN_of hr g1 (List.mem_filter.1 hu).1⟩
  refine (isort_eq (le := leL) leL_trans leL_total (fun _ _ => leL_anti) (o2.filter _) ?_).symm
  refine (List.perm_ext_iff_of_nodup (o1.filter _) ?_).2 fun x => ?_
  · rw [List.Nodup, List.pairwise_map]
    refine (addX_nodup List.nodup_nil : (driftsL (explR r (entsL r))).Nodup).imp_of_mem fun {a b} ha hb hab e => hab ?_
    have h1 := (hdl a).1 ha
    have h2 := (hdl b).1 hb
    rw [← list_set a (by omega), ← list_set b (by omega), e]
  · rw [List.mem_map, List.mem_filter, decide_eq_true_eq]
    constructor
    · rintro ⟨hx, hd⟩
      obtain ⟨g1, g2, g3⟩ := c1 x hx
      exact ⟨setN x, (hdl _).2 ⟨g1, by rw [← popF_eq _ (by omega)]; exact g2, hd⟩, g3⟩
    · rintro ⟨s, hs, rfl⟩
      obtain ⟨g1, g2, g3⟩ := (hdl s).1 hs
      obtain ⟨k1, k2⟩ := c2 s g1 (by rw [popF_eq _ (by omega)]; exact g2)
      exact ⟨k1, by rw [k2]; exact g3⟩
theorem fewL_none {r : Ros} (hg : r.Good) (hro : rosE r = 0) (h : ∀ m, m ≤ r.hands.toNat → hdue r m = []) : knownE r [] = 11 ∧ fewL r = [] := by
  have he : explR r (entsL r) = [] := by
    rcases explR_spec r (entsL r) with ⟨h1, _⟩ | ⟨m, h1, _, h3, _⟩
    · exact h1
    · exact absurd ((found_due hg.toHead h1).2 (h m h1)) h3
  have hk : knownE r [] = 11 := by
    unfold knownE
    rw [if_neg (fun c => c hro), if_neg (fun c => c rfl), if_pos he]
  exact ⟨hk, by unfold fewL; rw [hk]; rfl⟩
theorem fewL_some {r : Ros} (hg : r.Good) (hro : rosE r = 0) {m : Nat} (hm : m ≤ r.hands.toNat) (h1 : hdue r m ≠ []) (h0 : ∀ j, j < m → hdue r j = []) : knownE r [] = 0 ∧ fewL r = hdue r m := by
  rcases explR_spec r (entsL r) with ⟨_, g⟩ | ⟨k, g1, g2, g3, g4⟩
  · exact absurd ((found_due hg.toHead hm).1 (g m hm)) h1
  · have hkm : k = m := by
      rcases Nat.lt_trichotomy k m with c | c | c
      · exact absurd ((found_due hg.toHead g1).2 (h0 k c)) g3
      · exact c
      · exact absurd ((found_due hg.toHead hm).1 (g4 m c)) h1
    subst hkm
    have hne : explR r (entsL r) ≠ [] := by rw [g2]; exact fun e => g3 (addX_nil.1 e)
    have hk : knownE r [] = 0 := by
      unfold knownE
      rw [if_neg (fun c => c hro), if_neg (fun c => c rfl), if_neg hne]
    exact ⟨hk, by unfold fewL; rw [if_pos hk]; exact sets_due hg.toHead hm g2⟩
end Go.Proofs
set_option linter.unusedSimpArgs false
set_option linter.unusedVariables false
set_option maxRecDepth 100000
namespace Go.Proofs
open Go Go.Mu
variable {S : MC Tryz.prog}

/-- One round of a loop. -/
theorem ARun.once {E : Env} (hE : EnvOK E) {ro : Option Nat} {c : Code} {k : List Item} {kp : Nat → Bool} {tm sl : List (Nat × AV)} {σ : List AObj} {Q : Post}
    (hO : todoOK E (.code c :: .inLoop c :: k) = true) (h : ev E ro 100000 (.code c :: .inLoop c :: k) ⟨kp, [], sl⟩ σ Q) : ARun E ro (.code (.loop c) :: k) ⟨kp, tm, sl⟩ σ Q :=
  ARun.anew (fr := ⟨kp, tm, sl⟩) (.loop (ev_sound hE hO h))
theorem same_step {α : Type} [DecidableEq α] {a b : List α} {i : Nat} (hl : a.length = b.length) (h : i < a.length) (ht : a.take i = b.take i) : (a.take (i + 1) = b.take (i + 1)) ↔ a[i] = b[i]'(by omega) := by
  have ta := List.take_succ_eq_append_getElem h
  have tb := List.take_succ_eq_append_getElem (l := b) (i := i) (by omega)
  rw [ta, tb, ht]
  simp only [List.append_cancel_left_eq, List.cons.injEq, and_true]
theorem sameInts_p (a b : List Int) (hl : a.length ≤ 4294967296) (hl2 : b.length ≤ 4294967296) : PureV S 51 [.list .no 1 (a.map (.int .i64)), .list .no 1 (b.map (.int .i64))] (.bool (decide (a = b))) := by
  refine PureV.of_ev (E := Tryz.E (S := S) 31 Tryz.ord51 fs0) (Tryz.envOK (S := S) 31 Tryz.ord51 fs0 fs0_ok) (.bool) Tryz.kp51 Tryz.func51 rfl (by kernel_rfl) (by simp [Tryz.E]) (Callable.of Tryz.func51 (by kernel_rfl) (by kernel_rfl)) (by kernel_rfl) ?_
  intro σ
  by_cases hlen : a.length = b.length
  · have hz : ((a.length : Int) = b.length) := by omega
    simp -implicitDefEqProofs (maxSteps := 2000000) (disch := omega) only [go_sem, simprocAttr]
    refine ARun.loopJ (Tryz.envOK (S := S) 31 Tryz.ord51 fs0 fs0_ok) (α := Nat × Bool) (fun p => a.length - p.1) (fun p τ => τ = σ ∧ p.1 ≤ a.length ∧ p.2 = decide (a.take p.1 = b.take p.1)) (fun p => [(5, .bool p.2), (6, .int .i64 p.1)]) (0, true) (by kernel_rfl) (by simp [upd, ins, subF, lookA]) ⟨rfl, Nat.zero_le _, by simp⟩ ?_
    rintro ⟨i, c⟩ τ ⟨rfl, hi, hc⟩ ih
    simp only at hi hc ih
    cases c
    · simp -implicitDefEqProofs (maxSteps := 2000000) (disch := omega) only [go_sem, simprocAttr]
      have : ¬ a = b := fun e => by subst e; simp at hc
      simp [this]
    · have htk : a.take i = b.take i := by simpa using hc
      by_cases hlt : i < a.length
      · have hst := same_step hlen hlt htk
        have hia : idx (a.map (AV.int .i64)) (i : Int) = some (.int .i64 a[i]) := idx_nat hlt
        have hib : idx (b.map (AV.int .i64)) (i : Int) = some (.int .i64 (b[i]'(by omega))) := idx_nat (by omega)
        generalize a[i] = x at hst hia
        generalize b[i]'(by omega) = y at hst hib
        clear hc htk
        simp -implicitDefEqProofs (maxSteps := 2000000) (disch := omega) only [go_sem, simprocAttr, hia, hib]
        refine ⟨fun h => (ih (i + 1, true) _ (by simp only; omega) ⟨rfl, by simp only; omega, ?_⟩).castS rfl (by simp [upd, ins, subF, lookA]), fun h => (ih (i + 1, false) _ (by simp only; omega) ⟨rfl, by simp only; omega, ?_⟩).castS rfl (by simp [upd, ins, subF, lookA])⟩
        · simp [hst, h]
        · simp [hst, h]
      · have : i = a.length := by omega
        subst this
        simp -implicitDefEqProofs (maxSteps := 2000000) (disch := omega) only [go_sem, simprocAttr]
        have : a = b := by rwa [List.take_length, hlen, List.take_length] at htk
        simp [this]
  · have hz : ¬ ((a.length : Int) = b.length) := by omega
    have : ¬ a = b := fun e => hlen (by rw [e])
    simp -implicitDefEqProofs (maxSteps := 2000000) (disch := omega) only [go_sem, simprocAttr]
    refine ARun.once (Tryz.envOK (S := S) 31 Tryz.ord51 fs0 fs0_ok) (by kernel_rfl) ?_
    simp -implicitDefEqProofs (maxSteps := 2000000) (disch := omega) only [go_sem, simprocAttr]
    simp [this]
def sameInts_s := spec2 tIs tIs fun a b => if a.length ≤ 4294967296 ∧ b.length ≤ 4294967296 then some (.bool (decide (a = b))) else none
theorem sameInts_ok : ∀ xs v, sameInts_s xs = some v → PureV S 51 xs v :=
  spec2_ok fun a b v h => by have h := someIf h; rw [← h.2]; exact sameInts_p a b h.1.1 h.1.2
end Go.Proofs
set_option linter.unusedSimpArgs false
set_option linter.unusedVariables false
set_option maxRecDepth 100000
namespace Go.Proofs
open Go Go.Mu Go.Ins
variable {S : MC Tryz.prog}

theorem hto_p (a b : Int) : PureV S 60 [.int .i64 a, .int .i64 b] (Rng.mk a b).av := by
  refine PureV.of_ev (E := Tryz.E (S := S) 8 (fun _ => ([], [])) fs0) (Tryz.envOK (S := S) 8 (fun _ => ([], [])) fs0 fs0_ok) (Rng.plain _) Tryz.kp60 Tryz.func60 rfl (by kernel_rfl) (by simp [Tryz.E]) (Callable.of Tryz.func60 (by kernel_rfl) (by kernel_rfl)) (by kernel_rfl) ?_
  intro σ
  simp -implicitDefEqProofs (maxSteps := 2000000) (disch := omega) only [go_sem, simprocAttr, Rng.av]
def hto_s := spec2 tI tI fun a b => some (Rng.mk a b).av
theorem hto_ok : ∀ xs v, hto_s xs = some v → PureV S 60 xs v :=
  spec2_ok fun a b v h => by simp only [Option.some.injEq] at h; rw [← h]; exact hto_p a b
def fs408 (f : FuncId) (xs : List AV) : Option AV := if f = 60 then hto_s xs else if f = 51 then sameInts_s xs else fs407 f xs
theorem fs408_ok {S : MC Tryz.prog} : ∀ f xs v, fs408 f xs = some v → PureV S f xs v := by
  intro f xs v h
  unfold fs408 at h
  split at h
  · rename_i e; subst e; exact hto_ok _ _ h
  split at h
  · rename_i e; subst e; exact sameInts_ok _ _ h
  exact fs407_ok _ _ _ h
attribute [go_sem] fs408 hto_s sameInts_s
theorem htuned_p (d b due lo hi : Int) : PureV S 63 [.int .i64 d, .int .i64 b, .int .i64 due, .int .i64 lo, .int .i64 hi] (tnd d b due lo hi).av := by
  refine PureV.of_ev (E := Tryz.E (S := S) 20 (fun _ => ([], [])) fs408) (Tryz.envOK (S := S) 20 (fun _ => ([], [])) fs408 fs408_ok) ((Plain.agg (Tn.plains _))) Tryz.kp63 Tryz.func63 rfl (by kernel_rfl) (by simp [Tryz.E]) (Callable.of Tryz.func63 (by kernel_rfl) (by kernel_rfl)) (by kernel_rfl) ?_
  intro σ
  simp -implicitDefEqProofs (maxSteps := 2000000) (disch := omega) only [go_sem, simprocAttr, Rng.av, Tn.av, Tn.cells, tnd]
theorem shop_p : PureV S 91 [] shopR.av := by
  refine PureV.of_ev (E := Tryz.E (S := S) 7 (fun _ => ([], [])) fs408) (Tryz.envOK (S := S) 7 (fun _ => ([], [])) fs408 fs408_ok) (Ros.plain _) Tryz.kp91 Tryz.func91 rfl (by kernel_rfl) (by simp [Tryz.E]) (Callable.of Tryz.func91 (by kernel_rfl) (by kernel_rfl)) (by kernel_rfl) ?_
  intro σ
  simp -implicitDefEqProofs (maxSteps := 2000000) (disch := omega) only [go_sem, simprocAttr, Rng.av]
  refine htuned_p _ _ _ _ _ _ _ ?_
  simp -implicitDefEqProofs (maxSteps := 2000000) (disch := omega) only [go_sem, simprocAttr, Rng.av]
  refine htuned_p _ _ _ _ _ _ _ ?_
  simp -implicitDefEqProofs (maxSteps := 2000000) (disch := omega) only [go_sem, simprocAttr, Rng.av]
  refine htuned_p _ _ _ _ _ _ _ ?_
  simp only [Tn.av, Tn.cells, tnd, List.map_cons, List.map_nil, Rng.av]
  simp -implicitDefEqProofs (maxSteps := 2000000) (disch := omega) only [go_sem, simprocAttr, Rng.av, Ros.av, shopR, Tn.av, Tn.cells, tnd]
theorem lone_p : PureV S 90 [] loneR.av := by
  refine PureV.of_ev (E := Tryz.E (S := S) 7 (fun _ => ([], [])) fs408) (Tryz.envOK (S := S) 7 (fun _ => ([], [])) fs408 fs408_ok) (Ros.plain _) Tryz.kp90 Tryz.func90 rfl (by kernel_rfl) (by simp [Tryz.E]) (Callable.of Tryz.func90 (by kernel_rfl) (by kernel_rfl)) (by kernel_rfl) ?_
  intro σ
  simp -implicitDefEqProofs (maxSteps := 2000000) (disch := omega) only [go_sem, simprocAttr, Rng.av]
  refine shop_p _ _ ?_
  simp only [Ros.av]
  simp -implicitDefEqProofs (maxSteps := 2000000) (disch := omega) only [go_sem, simprocAttr, Rng.av]
  refine htuned_p _ _ _ _ _ _ _ ?_
  simp only [Tn.av, Tn.cells, tnd, List.map_cons, List.map_nil, Rng.av]
  simp -implicitDefEqProofs (maxSteps := 2000000) (disch := omega) only [go_sem, simprocAttr, Rng.av, Ros.av, shopR, loneR, Tn.av, Tn.cells, tnd]
theorem hsameLists_p (a b : List (List Int)) (hl : a.length ≤ 4294967296) (hl2 : b.length ≤ 4294967296) (ha : ∀ x ∈ a, x.length ≤ 4294967296) (hb : ∀ x ∈ b, x.length ≤ 4294967296) : PureV S 50 [.list .no 1 (a.map ints1), .list .no 1 (b.map ints1)] (.bool (decide (a = b))) := by
  refine PureV.of_ev (E := Tryz.E (S := S) 31 Tryz.ord50 fs408) (Tryz.envOK (S := S) 31 Tryz.ord50 fs408 fs408_ok) (.bool) Tryz.kp50 Tryz.func50 rfl (by kernel_rfl) (by simp [Tryz.E]) (Callable.of Tryz.func50 (by kernel_rfl) (by kernel_rfl)) (by kernel_rfl) ?_
  intro σ
  by_cases hlen : a.length = b.length
  · have hz : ((a.length : Int) = b.length) := by omega
    simp -implicitDefEqProofs (maxSteps := 2000000) (disch := omega) only [go_sem, simprocAttr]
    refine ARun.loopJ (Tryz.envOK (S := S) 31 Tryz.ord50 fs408 fs408_ok) (α := Nat × Bool) (fun p => a.length - p.1) (fun p τ => τ = σ ∧ p.1 ≤ a.length ∧ p.2 = decide (a.take p.1 = b.take p.1)) (fun p => [(5, .bool p.2), (6, .int .i64 p.1)]) (0, true) (by kernel_rfl) (by simp [upd, ins, subF, lookA]) ⟨rfl, Nat.zero_le _, by simp⟩ ?_
    rintro ⟨i, c⟩ τ ⟨rfl, hi, hc⟩ ih
    simp only at hi hc ih
    cases c
    · simp -implicitDefEqProofs (maxSteps := 2000000) (disch := omega) only [go_sem, simprocAttr]
      have : ¬ a = b := fun e => by subst e; simp at hc
      simp [this]
    · have htk : a.take i = b.take i := by simpa using hc
      by_cases hlt : i < a.length
      · have hst := same_step hlen hlt htk
        have hia : idx (a.map ints1) (i : Int) = some (ints1 a[i]) := idx_nat hlt
        have hib : idx (b.map ints1) (i : Int) = some (ints1 (b[i]'(by omega))) := idx_nat (by omega)
        have hxl := ha _ (List.getElem_mem hlt)
        have hyl := hb _ (List.getElem_mem (show i < b.length by omega))
        generalize a[i] = x at hst hia hxl
        generalize b[i]'(by omega) = y at hst hib hyl
        clear hc htk
        simp -implicitDefEqProofs (maxSteps := 2000000) (disch := omega) only [go_sem, simprocAttr, hia, hib, ints1]
        refine ⟨fun h => (ih (i + 1, true) _ (by simp only; omega) ⟨rfl, by simp only; omega, ?_⟩).castS rfl (by simp [upd, ins, subF, lookA]), fun h => (ih (i + 1, false) _ (by simp only; omega) ⟨rfl, by simp only; omega, ?_⟩).castS rfl (by simp [upd, ins, subF, lookA])⟩
        · simp [hst, h]
        · simp [hst, h]
      · have : i = a.length := by omega
        subst this
        simp -implicitDefEqProofs (maxSteps := 2000000) (disch := omega) only [go_sem, simprocAttr]
        have : a = b := by rwa [List.take_length, hlen, List.take_length] at htk
        simp [this]
  · have hz : ¬ ((a.length : Int) = b.length) := by omega
    have : ¬ a = b := fun e => hlen (by rw [e])
    simp -implicitDefEqProofs (maxSteps := 2000000) (disch := omega) only [go_sem, simprocAttr]
    refine ARun.once (Tryz.envOK (S := S) 31 Tryz.ord50 fs408 fs408_ok) (by kernel_rfl) ?_
    simp -implicitDefEqProofs (maxSteps := 2000000) (disch := omega) only [go_sem, simprocAttr]
    simp [this]
end Go.Proofs
