/- Texts of a proof: lemmas. -/
import Derived.Test.YtgbdndlmdklefaaGreatK41
import Derived.Test.YtgbdndlmdklefaaGreatK40
set_option linter.unusedSimpArgs false
set_option linter.unusedVariables false
set_option maxRecDepth 100000
namespace Go.Proofs
open Go Go.Mu Go.Ins

def Tryz.ordSt : Nat → List Nat × List (Nat × List Nat)
  | 6 => ([0, 1, 3, 7, 15, 31, 63, 127, 255, 511, 1023, 2047, 4095, 8191, 16383, 32767, 65535, 131071, 262143, 524287, 1048575, 2097151, 4194303, 8388607, 8388607, 33554431, 67108863, 134217727, 268435455, 268435455, 268435455, 1879048191, 4294967295, 8589934591, 17179869183, 34359738367, 34359738367, 137438953471, 274877906943, 549755813887, 1099511627775, 1099511627775, 4398046511103, 8796093022207, 17592186044415], [(0, []), (1, []), (2, []), (3, []), (4, []), (5, []), (6, []), (7, []), (8, []), (9, []), (10, []), (11, []), (12, []), (13, []), (14, []), (15, []), (16, []), (17, []), (18, []), (19, []), (20, []), (21, []), (22, []), (23, []), (24, [24]), (25, []), (26, []), (27, []), (28, []), (29, []), (30, []), (31, []), (32, []), (33, []), (34, []), (35, []), (36, []), (37, [37]), (38, []), (39, []), (40, []), (41, []), (42, [42]), (43, []), (44, [])])
  | _ => ([], [])
theorem Tryz.ordSt_6 : Tryz.ordSt 6 = ([0, 1, 3, 7, 15, 31, 63, 127, 255, 511, 1023, 2047, 4095, 8191, 16383, 32767, 65535, 131071, 262143, 524287, 1048575, 2097151, 4194303, 8388607, 8388607, 33554431, 67108863, 134217727, 268435455, 268435455, 268435455, 1879048191, 4294967295, 8589934591, 17179869183, 34359738367, 34359738367, 137438953471, 274877906943, 549755813887, 1099511627775, 1099511627775, 4398046511103, 8796093022207, 17592186044415], [(0, []), (1, []), (2, []), (3, []), (4, []), (5, []), (6, []), (7, []), (8, []), (9, []), (10, []), (11, []), (12, []), (13, []), (14, []), (15, []), (16, []), (17, []), (18, []), (19, []), (20, []), (21, []), (22, []), (23, []), (24, [24]), (25, []), (26, []), (27, []), (28, []), (29, []), (30, []), (31, []), (32, []), (33, []), (34, []), (35, []), (36, []), (37, [37]), (38, []), (39, []), (40, []), (41, []), (42, [42]), (43, []), (44, [])]) := rfl
attribute [go_sem] Tryz.ordSt_6
theorem shop_fit : shopR.Fit := ⟨by decide, by decide, by decide +kernel⟩
theorem lone_fit : loneR.Fit := ⟨by decide, by decide, by decide +kernel⟩
set_option maxHeartbeats 4000000 in
theorem steady_p : PureV SBes 26 [] (.bool true) := by
  refine PureV.of_ev (E := Tryz.E (S := SBes) 80 Tryz.ordSt fs408) (Tryz.envOK (S := SBes) 80 Tryz.ordSt fs408 fs408_ok) (.bool) Tryz.kp26 Tryz.func26 rfl (by kernel_rfl) (by simp [Tryz.E]) (Callable.of Tryz.func26 (by kernel_rfl) (by kernel_rfl)) (by kernel_rfl) ?_
  intro σ
  simp -implicitDefEqProofs (maxSteps := 2000000) (disch := omega) only [go_sem, simprocAttr]
  refine lone_p _ _ ?_
  simp -implicitDefEqProofs (maxSteps := 2000000) (disch := omega) only [go_sem, simprocAttr]
  refine fewest_p loneR lone_fit _ _ ?_
  rw [lone_few, lone_k rfl]
  simp -implicitDefEqProofs (maxSteps := 2000000) (disch := omega) only [go_sem, simprocAttr]
  refine shop_p _ _ ?_
  simp -implicitDefEqProofs (maxSteps := 2000000) (disch := omega) only [go_sem, simprocAttr]
  refine convicts_p shopR shop_fit _ _ ?_
  rw [shop_conv, shop_k rfl]
  simp -implicitDefEqProofs (maxSteps := 2000000) (disch := omega) only [go_sem, simprocAttr]
  refine shop_p _ _ ?_
  simp -implicitDefEqProofs (maxSteps := 2000000) (disch := omega) only [go_sem, simprocAttr]
  refine ratesS_p shopR shop_fit 0 shop_rE (by rw [shop_rof]; decide) (by rw [shop_rof]; decide) _ _ ?_
  rw [shop_rL]
  simp -implicitDefEqProofs (maxSteps := 2000000) (disch := omega) only [go_sem, simprocAttr]
  refine shop_p _ _ ?_
  simp -implicitDefEqProofs (maxSteps := 2000000) (disch := omega) only [go_sem, simprocAttr]
  refine test_p shopR shop_fit 0 10 44000 _ _ ?_
  rw [shop_tE, shop_tL]
  simp -implicitDefEqProofs (maxSteps := 2000000) (disch := omega) only [go_sem, simprocAttr]
  refine shop_p _ _ ?_
  simp -implicitDefEqProofs (maxSteps := 2000000) (disch := omega) only [go_sem, simprocAttr]
  refine trusted_p shopR shop_fit 0 5 (by decide) _ _ ?_
  rw [shop_uE, shop_uL]
  simp -implicitDefEqProofs (maxSteps := 2000000) (disch := omega) only [go_sem, simprocAttr, Rng.av, ints1]
  refine ACalls.weaken (l' := [.list .no 1 ([[0], [1]].map ints1), .list .no 1 ([[0], [1]].map ints1)]) ⟨⟨rfl, .inl rfl, .inl rfl⟩, ⟨rfl, .inl rfl, .inl rfl⟩, trivial⟩ (hsameLists_p [[0], [1]] [[0], [1]] (by decide) (by decide) (by decide) (by decide) _ _ ?_)
  rw [decide_eq_true rfl]
  simp -implicitDefEqProofs (maxSteps := 2000000) (disch := omega) only [go_sem, simprocAttr, Rng.av, ints1]
end Go.Proofs
set_option linter.unusedSimpArgs false
set_option linter.unusedVariables false
set_option maxRecDepth 100000
namespace Go.Proofs
open Go Go.Mu Go.Ins

theorem TrueR.fit {H E w : Int} {r : Ros} {rates by_ : List Int} (h : TrueR H E w r rates by_) (hE : E ≤ 5) : r.Fit := by
  have h1 := h.sl
  have h2 := h.el
  refine ⟨by omega, by omega, fun x hx => ?_⟩
  obtain ⟨b, hb⟩ := h.by_at hx
  obtain ⟨t, lo, hi, rds, _, _, g3, g4⟩ := hb.ear
  rw [g4]
  rcases g3 with rfl | rfl <;> simp
end Go.Proofs
set_option linter.unusedSimpArgs false
set_option linter.unusedVariables false
set_option maxRecDepth 100000
namespace Go.Proofs
open Go Go.Mu Go.Ins

def withV (r : Ros) (x : Tn) : AV := if knownE (r.snoc x) [] = 0 then (r.snoc x).av else ros0
theorem ros0_plain : Plain ros0 := .agg (by
  simp only [List.mem_cons, List.not_mem_nil, or_false, forall_eq_or_imp, forall_eq]
  exact ⟨.int, .int, .int, .int, .list0, .list0⟩)
theorem with1_p (r : Ros) (x : Tn) (hf : r.Fit) (hhd : headE r = 0) (hen : entsE r = 0) (hl : r.ents.length ≤ 4) (hx : (chkE x r.hands).2 = 0) (hx1 : x.ear.tones.length ≤ 1000000) (hx2 : x.ear.rds.length ≤ 1000000) :
    PureV SBes 62 [r.av, x.av] (.tup [withV r x, .int .i64 (knownE (r.snoc x) [])]) := by
  intro σ Q hq
  refine ACalls.clean (with_c r x hf hhd hen hl hx hx1 hx2 (fun hK j => ?_) fun hK j => ?_)
  · rw [show withV r x = ros0 from if_neg hK] at hq
    exact ⟨_, j, rfl, Weak.refl _, (Plain.tup (by simp only [List.mem_cons, List.not_mem_nil, or_false, forall_eq_or_imp, forall_eq]; exact ⟨ros0_plain, .int⟩)) _, hq⟩
  · rw [show withV r x = (r.snoc x).av from if_pos hK, hK] at hq
    exact ⟨_, j, rfl, Weak.refl _, (Plain.tup (by simp only [List.mem_cons, List.not_mem_nil, or_false, forall_eq_or_imp, forall_eq]; exact ⟨Ros.plain _, .int⟩)) _, hq⟩
theorem idx0 (a : AV) (l : List AV) : idx (a :: l) 0 = some a := rfl
theorem tones_idx {lo hi : Int} {i : Nat} (h : i < 4) : idx [AV.int .i64 lo, AV.int .i64 hi, AV.int .i64 (lo - 1), AV.int .i64 (hi + 1)] (i : Int) = some (.int .i64 (toneX lo hi i)) := by
  rcases (by omega : i = 0 ∨ i = 1 ∨ i = 2 ∨ i = 3) with rfl | rfl | rfl | rfl <;> rfl
set_option maxHeartbeats 8000000 in
theorem handTested_law (l : List Int) (hl : l.length ≤ 4294967296) (σ : List AObj) : ACalls SBes 12 [.list .no 1 (l.map (.int .i64))] σ fun v _ => v = .bool true := by
  refine ACalls.of_ev (E := Tryz.E (S := SBes) 162 Tryz.ord12 fs408) (Tryz.envOK (S := SBes) 162 Tryz.ord12 fs408 fs408_ok) Tryz.kp12 Tryz.func12 rfl (by kernel_rfl) (by simp [Tryz.E]) (Callable.of Tryz.func12 (by kernel_rfl) (by kernel_rfl)) (by kernel_rfl) ?_
  simp -implicitDefEqProofs (maxSteps := 2000000) (disch := omega) only [go_sem, simprocAttr]
  refine newPot_c l .no hl σ _ fun s1 j1 => ?_
  obtain ⟨τ, hτ⟩ : ∃ τ, τ = σ ++ (AObj.cells [.int .u64 s1] :: j1) := ⟨_, rfl⟩
  have hp : PotAt τ σ.length := ⟨s1, by rw [hτ]; exact hget_at0⟩
  rw [← hτ]
  obtain ⟨p, hpe⟩ : ∃ p, p = σ.length := ⟨_, rfl⟩
  rw [← hpe] at hp ⊢
  clear hτ hpe
  have hpl := hp.lt1
  simp -implicitDefEqProofs (maxSteps := 2000000) (disch := omega) only [go_sem, simprocAttr]
  refine rosterOf_c p 3 4 2 (by omega) (by omega) (by omega) τ hp _ fun s2 r rates by_ j2 hT => ?_
  have hfit := hT.fit (by omega)
  have hkn : ∀ ws, firstNZ ws = 0 → knownE r ws = 0 := fun ws => hT.known (by omega) (by omega) (by omega)
  have hh := hT.hands
  have hsk := hT.skill
  have hhd := hT.head (by omega) (by omega)
  have hen := hT.entE (by omega)
  have hel := hT.el
  clear hT
  simp only [Ros.av, truAV, ints1]
  simp -implicitDefEqProofs (maxSteps := 2000000) (disch := omega) only [go_sem, simprocAttr, hlength_pw, hhget_pw0, hhget_pw, hhset_pw0, hhset_pw]
  have hr1 : ∀ s j3, hget (pw τ p s ++ (j2 ++ (AObj.cells [.int .i64 r.hands, .int .i64 r.skill, .int .i64 r.mn, .int .i64 r.mx, .list .no 2 (r.sets.map Sg.av), .list .no 6 (r.ents.map Tn.av)] :: j3))) (τ.length + j2.length) = some (.cells [.int .i64 r.hands, .int .i64 r.skill, .int .i64 r.mn, .int .i64 r.mx, .list .no 2 (r.sets.map Sg.av), .list .no 6 (r.ents.map Tn.av)]) := fun s j3 => by rw [hhget_pw]; simp
  have hwh : IntKind.i64.wrap (r.hands - 1) = r.hands - 1 := wrap64 (by omega) (by omega)
  refine upto_c p (r.hands - 1) (by omega) _ (hp.pw _).app1 _ fun s3 who w1 w2 => ?_
  rw [hpw_pwa hpl]
  have hw : 0 ≤ who ∧ who < r.hands := by omega
  clear w1 w2
  simp -implicitDefEqProofs (maxSteps := 2000000) (disch := omega) only [go_sem, simprocAttr, hlength_pw, hhget_pw0, hhget_pw, hhset_pw0, hhset_pw, hr1, hwh]
  refine upto_c p 20 (by omega) _ (hp.pw _).app1 _ fun s4 day d1 d2 => ?_
  rw [hpw_pwa hpl]
  have hd : 0 ≤ day ∧ day ≤ 20 := by omega
  clear d1 d2
  simp -implicitDefEqProofs (maxSteps := 2000000) (disch := omega) only [go_sem, simprocAttr, hlength_pw, hhget_pw0, hhget_pw, hhset_pw0, hhset_pw, hr1, hwh]
  refine within_c p 500 2000 (by omega) (by omega) _ (hp.pw _).app1 _ fun s5 due e1 e2 => ?_
  rw [hpw_pwa hpl]
  have hdu : 500 ≤ due ∧ due ≤ 2000 := by omega
  clear e1 e2
  have hr2 := hr1 s5
  clear hr1
  simp -implicitDefEqProofs (maxSteps := 2000000) (disch := omega) only [go_sem, simprocAttr, hlength_pw, hhget_pw0, hhget_pw, hhset_pw0, hhset_pw, hr2]
  refine test_p r hfit who day due _ _ ?_
  have hk0 : knownE r [] = 0 := hkn [] rfl
  have hte : testE r who day due = 0 := hkn _ (by
    have a1 : isHandE r.hands who = 0 := by unfold isHandE; rw [hwh, if_pos (by omega)]
    have a2 : dueE day due = 0 := by unfold dueE isDayE; rw [if_pos (by omega), if_pos (by omega)]
    rw [a1, a2]; rfl)
  rw [hte, show testL r who day due = (due + (errsL r (explR r (entsL r)) who day).1 - r.skill, due + (errsL r (explR r (entsL r)) who day).2 + r.skill) from if_pos hte]
  have hlaw := fun (i : Nat) hi (x : Tn) => @tested_law r hhd hen (by omega) hk0 hsk day who due hd hw hdu _ rfl i hi x
  generalize errsL r (explR r (entsL r)) who day = E at hlaw ⊢
  obtain ⟨E1, E2⟩ := E
  simp only at hlaw ⊢
  have hEb : -300 ≤ E1 ∧ E1 ≤ E2 ∧ E2 ≤ 300 := by
    obtain ⟨a1, a2, a3, _⟩ := hlaw 0 (by omega) _ rfl
    exact ⟨a1, a2, a3⟩
  obtain ⟨lo, hlo⟩ : ∃ lo, lo = due + E1 - r.skill := ⟨_, rfl⟩
  obtain ⟨hi, hhi⟩ : ∃ hi, hi = due + E2 + r.skill := ⟨_, rfl⟩
  rw [← hlo, ← hhi] at hlaw ⊢
  have hlob : 100 ≤ lo ∧ lo ≤ hi ∧ hi ≤ 3000 := by omega
  clear hlo hhi hEb
  simp -implicitDefEqProofs (maxSteps := 2000000) (disch := omega) only [go_sem, simprocAttr, hlength_pw, hhget_pw0, hhget_pw, hhset_pw0, hhset_pw, hr2]
  refine fewest_p r hfit _ _ ?_
  rw [hk0]
  obtain ⟨f0, F, hF, hF0⟩ : ∃ f0 F, fewL r = f0 :: F ∧ f0.length ≤ 4 := by
    obtain ⟨_, _, _, _, _, _, hx⟩ := hlaw 0 (by omega) _ rfl
    rcases hx with ⟨_, c⟩ | ⟨_, f0, F, g0, G, e, _⟩
    · omega
    · exact ⟨f0, F, e, (fewL_few r).2 f0 (by rw [e]; simp)⟩
  have hF6 := (fewL_few r).1
  rw [hF] at hF6
  rw [hF] at hlaw ⊢
  simp only [List.map_cons, List.length_cons] at hF6 ⊢
  simp -implicitDefEqProofs (maxSteps := 2000000) (disch := omega) only [go_sem, simprocAttr, hlength_pw, hhget_pw0, hhget_pw, hhset_pw0, hhset_pw, hr2]
  have hr0 := fun j => hr2 ([AObj.cells [.list .no 1 (rates.map (.int .i64)), .list .no 1 (by_.map (.int .i64))], AObj.cells [.int .i64 lo, .int .i64 hi]] ++ j)
  obtain ⟨σ1, hσ1⟩ : ∃ σ1, σ1 = pw τ p s5 ++ (j2 ++ [AObj.cells [.int .i64 r.hands, .int .i64 r.skill, .int .i64 r.mn, .int .i64 r.mx, .list .no 2 (r.sets.map Sg.av), .list .no 6 (r.ents.map Tn.av)], AObj.cells [.list .no 1 (rates.map (.int .i64)), .list .no 1 (by_.map (.int .i64))], AObj.cells [.int .i64 lo, .int .i64 hi]]) := ⟨_, rfl⟩
  have hr3 : ∀ j, hget (σ1 ++ j) (τ.length + j2.length) = some (.cells [.int .i64 r.hands, .int .i64 r.skill, .int .i64 r.mn, .int .i64 r.mx, .list .no 2 (r.sets.map Sg.av), .list .no 6 (r.ents.map Tn.av)]) := fun j => by
    rw [← hr0 j, hσ1]; simp
  rw [← hσ1]
  clear hr0 hr2 hσ1
  generalize τ.length + j2.length = q at hr3 ⊢
  generalize τ.length + (j2.length + 2) = q2
  refine ARun.forS (Tryz.envOK (S := SBes) 162 Tryz.ord12 fs408 fs408_ok) 4 (fun _ => True) (fun i => [(14, .int .i64 i)]) (fun _ j => σ1 ++ j) [] (by kernel_rfl) (by simp) (by simp [upd, ins, subF, lookA]) trivial ?_ ?_
  · intro i j hi4 _ ih
    have hti := @tones_idx lo hi i hi4
    obtain ⟨_, _, _, hch, hhd2, hen2, hx⟩ := hlaw i hi4 _ rfl
    have htb : 1 ≤ toneX lo hi i ∧ toneX lo hi i ≤ 3001 := by
      rcases (by omega : i = 0 ∨ i = 1 ∨ i = 2 ∨ i = 3) with rfl | rfl | rfl | rfl <;> simp only [toneX] <;> omega
    clear hlaw
    generalize toneX lo hi i = t at *
    obtain ⟨x, hxe⟩ : ∃ x, x = tnd day who due t t := ⟨_, rfl⟩
    rw [← hxe] at hch hhd2 hen2 hx
    have hwp := with1_p r x hfit hhd hen (by omega) hch (by rw [hxe]; simp [tnd]) (by rw [hxe]; simp [tnd])
    have hfit2 : (r.snoc x).Fit := ⟨hfit.sets, by show (r.ents ++ [x]).length ≤ 1000000; simp; omega, fun y hy => by
      have hy' : y ∈ r.ents ++ [x] := hy
      rcases List.mem_append.1 hy' with g | g
      · exact hfit.ear y g
      · simp at g; subst g; rw [hxe]; simp [tnd]⟩
    have hwi : IntKind.i64.wrap ((i : Int) + 1) = ((i + 1 : Nat) : Int) := by rw [wrap64 (by omega) (by omega)]; rfl
    have hi5 : ((i : Int) < 4) = True := eq_true (by omega)
    simp -implicitDefEqProofs (maxSteps := 2000000) (disch := omega) only [go_sem, simprocAttr, hr3, hti, hi5]
    refine htuned_p day who due t t _ _ ?_
    rw [← hxe]
    simp -implicitDefEqProofs (maxSteps := 2000000) (disch := omega) only [go_sem, simprocAttr, hr3, hti, hi5]
    refine hwp _ _ ?_
    rcases hx with ⟨hK, hi1⟩ | ⟨hK, f1, F1, g0, G, hF1, hG, hfg⟩
    · have hi6 : (1 < (i : Int)) = True := eq_true (by omega)
      rw [show withV r x = ros0 from if_neg (by rw [hK]; decide), hK]
      simp only [ros0]
      simp -implicitDefEqProofs (maxSteps := 2000000) (disch := omega) only [go_sem, simprocAttr, hr3, hti, hi5, hi6, hwi]
      exact (ih trivial (j ++ [AObj.cells [.int .i64 0, .int .i64 0, .int .i64 0, .int .i64 0, .list .full 0 [], .list .full 0 []]])).castS (by simp) (by simp [upd, ins, subF, lookA])
    · rw [show withV r x = (r.snoc x).av from if_pos hK, hK]
      have hFe : f1 = f0 ∧ F1 = F := by simpa using hF1.symm
      obtain ⟨rfl, rfl⟩ := hFe
      have hC : ∀ C : AObj, hget (σ1 ++ (j ++ [C])) (σ1.length + j.length) = some C := fun C => by rw [hget_at]; simp
      have hsl : ((r.snoc x).ents.length : Int) = r.ents.length + 1 := by show ((r.ents ++ [x]).length : Int) = _; simp
      have hfp := fewest_p (r.snoc x) hfit2
      rw [hK, hG] at hfp
      have hG4 := (fewL_few (r.snoc x)).2 g0 (by rw [hG]; simp)
      have hG6 := (fewL_few (r.snoc x)).1
      rw [hG] at hG6
      simp only [List.map_cons, List.length_cons] at hfp hG6
      simp only [Ros.av] at hfp ⊢
      have hml : (((r.snoc x).ents.map Tn.av).length : Int) = r.ents.length + 1 := by rw [List.length_map]; exact hsl
      have hwl : IntKind.i64.wrap ((r.ents.length : Int) + 1) = (r.ents.length : Int) + 1 := wrap64 (by omega) (by omega)
      simp -implicitDefEqProofs (maxSteps := 2000000) (disch := omega) only [go_sem, simprocAttr, hr3, hti, hi5, hC, hwi]
      refine hfp _ _ ?_
      by_cases hi2 : i < 2
      · have hi7 : ((i : Int) < 2) = True := eq_true (by omega)
        have hgf : ((g0.length : Int) = f1.length) = True := eq_true (by have := hfg.2 hi2; omega)
        simp -implicitDefEqProofs (maxSteps := 2000000) (disch := omega) only [go_sem, simprocAttr, hr3, hti, hi5, hC, hwi, hi7, hgf, hml, hsl, hwl, ints1, idx0]
        exact (ih trivial (j ++ [AObj.cells [.int .i64 (r.snoc x).hands, .int .i64 (r.snoc x).skill, .int .i64 (r.snoc x).mn, .int .i64 (r.snoc x).mx, .list .no 2 ((r.snoc x).sets.map Sg.av), .list .no 6 ((r.snoc x).ents.map Tn.av)]])).castS (by simp) (by simp [upd, ins, subF, lookA, ints1])
      · have hi7 : ((i : Int) < 2) = False := eq_false (by omega)
        have hgf : ((g0.length : Int) = f1.length) = False := eq_false fun e => hi2 (hfg.1 (by omega))
        simp -implicitDefEqProofs (maxSteps := 2000000) (disch := omega) only [go_sem, simprocAttr, hr3, hti, hi5, hC, hwi, hi7, hgf, hml, hsl, hwl, ints1, idx0]
        exact (ih trivial (j ++ [AObj.cells [.int .i64 (r.snoc x).hands, .int .i64 (r.snoc x).skill, .int .i64 (r.snoc x).mn, .int .i64 (r.snoc x).mx, .list .no 2 ((r.snoc x).sets.map Sg.av), .list .no 6 ((r.snoc x).ents.map Tn.av)]])).castS (by simp) (by simp [upd, ins, subF, lookA, ints1])
  · intro j _
    simp -implicitDefEqProofs (maxSteps := 2000000) (disch := omega) only [go_sem, simprocAttr]
    refine steady_p _ _ ?_
    simp -implicitDefEqProofs (maxSteps := 2000000) (disch := omega) only [go_sem, simprocAttr]
end Go.Proofs
