/- Texts of a proof: lemmas. -/
import Derived.Test.YtgbdndlmdklefaaGreatK40
set_option linter.unusedSimpArgs false
set_option linter.unusedVariables false
set_option maxRecDepth 100000
namespace Go.Proofs
open Go Go.Mu Go.Ins

def Tryz.ordSt : Nat → List Nat × List (Nat × List Nat)
  | 6 => ([0, 1, 3, 7, 15, 31, 63, 127, 255, 511, 1023, 2047, 4095, 8191, 16383, 32767, 65535, 131071, 262143, 524287, 1048575, 2097151, 4194303, 8388607, 8388607, 33554431, 67108863, 134217727, 268435455, 268435455, 268435455, 1879048191, 4294967295, 8589934591, 17179869183, 34359738367, 34359738367, 137438953471, 274877906943, 549755813887, 1099511627775, 1099511627775, 4398046511103, 8796093022207, 17592186044415], [(0, []), (1, []), (2, []), (3, []), (4, []), (5, []), (6, []), (7, []), (8, []), (9, []), (10, []), (11, []), (12, []), (13, []), (14, []), (15, []), (16, []), (17, []), (18, []), (19, []), (20, []), (21, []), (22, []), (23, []), (24, [24]), (25, []), (26, []), (27, []), (28, []), (29, []), (30, []), (31, []), (32, []), (33, []), (34, []), (35, []), (36, []), (37, [37]), (38, []), (39, []), (40, []), (41, []), (42, [42]), (43, []), (44, [])])
  | _ => ([], [])
theorem Tryz.ordSt_6 : Tryz.ordSt 6 = ([0, 1, 3, 7, 15, 31, 63, 127, 255, 511, 1023, 2047, 4095, 8191, 16383, 32767, 65535, 131071, 262143, 524287, 1048575, 2097151, 4194303, 8388607, 8388607, 33554431, 67108863, 134217727, 268435455, 268435455, 268435455, 1879048191, 4294967295, 8589934591, 17179869183, 34359738367, 34359738367, 137438953471, 274877906943, 549755813887, 1099511627775, 1099511627775, 4398046511103, 8796093022207, 17592186044415], [(0, []), (1, []), (2, []), (3, []), (4, []), (5, []), (6, []), (7, []), (8, []), (9, []), (10, []), (11, []), (12, []), (13, []), (14, []), (15, []), (16, []), (17, []), (18, []), (19, []), (20, []), (21, []), (22, []), (23, []), (24, [24]), (25, []), (26, []), (27, []), (28, []), (29, []), (30, []), (31, []), (32, []), (33, []), (34, []), (35, []), (36, []), (37, [37]), (38, []), (39, []), (40, []), (41, []), (42, [42]), (43, []), (44, [])]) := rfl
attribute [go_sem] Tryz.ordSt_6
theorem shop_fit : shopR.Fit := ⟨by decide, by decide, by decide +kernel⟩
theorem lone_fit : loneR.Fit := ⟨by decide, by decide, by decide +kernel⟩
set_option maxHeartbeats 4000000 in
theorem steady_p : PureV SBes 26 [] (.bool true) := by
  refine PureV.of_ev (E := Tryz.E (S := SBes) 80 Tryz.ordSt fs408) (Tryz.envOK (S := SBes) 80 Tryz.ordSt fs408 fs408_ok) (.bool) Tryz.kp26 Tryz.func26 rfl (by kernel_rfl) (by simp [Tryz.E]) (Callable.of Tryz.func26 (by kernel_rfl) (by kernel_rfl)) (by kernel_rfl) ?_
  intro σ
  simp -implicitDefEqProofs (maxSteps := 2000000) (disch := omega) only [go_sem, simprocAttr]
  refine lone_p _ _ ?_
  simp -implicitDefEqProofs (maxSteps := 2000000) (disch := omega) only [go_sem, simprocAttr]
  refine fewest_p loneR lone_fit _ _ ?_
  rw [lone_few, lone_k rfl]
  simp -implicitDefEqProofs (maxSteps := 2000000) (disch := omega) only [go_sem, simprocAttr]
  refine shop_p _ _ ?_
  simp -implicitDefEqProofs (maxSteps := 2000000) (disch := omega) only [go_sem, simprocAttr]
  refine convicts_p shopR shop_fit _ _ ?_
  rw [shop_conv, shop_k rfl]
  simp -implicitDefEqProofs (maxSteps := 2000000) (disch := omega) only [go_sem, simprocAttr]
  refine shop_p _ _ ?_
  simp -implicitDefEqProofs (maxSteps := 2000000) (disch := omega) only [go_sem, simprocAttr]
  refine ratesS_p shopR shop_fit 0 shop_rE (by rw [shop_rof]; decide) (by rw [shop_rof]; decide) _ _ ?_
  rw [shop_rL]
  simp -implicitDefEqProofs (maxSteps := 2000000) (disch := omega) only [go_sem, simprocAttr]
  refine shop_p _ _ ?_
  simp -implicitDefEqProofs (maxSteps := 2000000) (disch := omega) only [go_sem, simprocAttr]
  refine test_p shopR shop_fit 0 10 44000 _ _ ?_
  rw [shop_tE, shop_tL]
  simp -implicitDefEqProofs (maxSteps := 2000000) (disch := omega) only [go_sem, simprocAttr]
  refine shop_p _ _ ?_
  simp -implicitDefEqProofs (maxSteps := 2000000) (disch := omega) only [go_sem, simprocAttr]
  refine trusted_p shopR shop_fit 0 5 (by decide) _ _ ?_
  rw [shop_uE, shop_uL]
  simp -implicitDefEqProofs (maxSteps := 2000000) (disch := omega) only [go_sem, simprocAttr, Rng.av, ints1]
  refine ACalls.weaken (l' := [.list .no 1 ([[0], [1]].map ints1), .list .no 1 ([[0], [1]].map ints1)]) ⟨⟨rfl, .inl rfl, .inl rfl⟩, ⟨rfl, .inl rfl, .inl rfl⟩, trivial⟩ (hsameLists_p [[0], [1]] [[0], [1]] (by decide) (by decide) (by decide) (by decide) _ _ ?_)
  rw [decide_eq_true rfl]
  simp -implicitDefEqProofs (maxSteps := 2000000) (disch := omega) only [go_sem, simprocAttr, Rng.av, ints1]
end Go.Proofs
set_option linter.unusedSimpArgs false
set_option linter.unusedVariables false
set_option maxRecDepth 100000
namespace Go.Proofs
open Go Go.Mu Go.Ins

set_option maxHeartbeats 8000000 in
theorem handFewest_law (l : List Int) (hl : l.length ≤ 4294967296) (σ : List AObj) : ACalls SBes 8 [.list .no 1 (l.map (.int .i64))] σ fun v _ => v = .bool true := by
  refine ACalls.of_ev (E := Tryz.E (S := SBes) 78 Tryz.ord8 fs408) (Tryz.envOK (S := SBes) 78 Tryz.ord8 fs408 fs408_ok) Tryz.kp8 Tryz.func8 rfl (by kernel_rfl) (by simp [Tryz.E]) (Callable.of Tryz.func8 (by kernel_rfl) (by kernel_rfl)) (by kernel_rfl) ?_
  simp -implicitDefEqProofs (maxSteps := 2000000) (disch := omega) only [go_sem, simprocAttr]
  refine newPot_c l .no hl σ _ fun s1 j1 => ?_
  obtain ⟨τ, hτ⟩ : ∃ τ, τ = σ ++ (AObj.cells [.int .u64 s1] :: j1) := ⟨_, rfl⟩
  have hp : PotAt τ σ.length := ⟨s1, by rw [hτ]; exact hget_at0⟩
  rw [← hτ]
  obtain ⟨p, hpe⟩ : ∃ p, p = σ.length := ⟨_, rfl⟩
  rw [← hpe] at hp ⊢
  clear hτ hpe
  simp -implicitDefEqProofs (maxSteps := 2000000) (disch := omega) only [go_sem, simprocAttr]
  refine odd_c p 4 4 (by omega) (by omega) τ hp _ fun s2 r j2 hT => ?_
  have hfit := hT.fit (by omega)
  have hgood := hT.good (by omega) (by omega)
  have hhd := hT.head (by omega) (by omega)
  have hen := hT.entE
  have hro : rosE r = 0 := by unfold rosE; rw [if_neg (fun c => c hhd)]; exact hen
  have hh := hT.hands
  clear hT
  generalize pw τ p s2 ++ j2 = σ0
  clear hp
  have hr1 : ∀ j3, hget (σ0 ++ (AObj.cells [.int .i64 r.hands, .int .i64 r.skill, .int .i64 r.mn, .int .i64 r.mx, .list .no 2 (r.sets.map Sg.av), .list .no 6 (r.ents.map Tn.av)] :: j3)) σ0.length = some (.cells [.int .i64 r.hands, .int .i64 r.skill, .int .i64 r.mn, .int .i64 r.mx, .list .no 2 (r.sets.map Sg.av), .list .no 6 (r.ents.map Tn.av)]) := fun j3 => hget_at0
  simp only [Ros.av]
  simp -implicitDefEqProofs (maxSteps := 2000000) (disch := omega) only [go_sem, simprocAttr]
  refine fewest_p r hfit _ _ ?_
  have hsome := fun m hm => @fewL_some r hgood hro m hm
  have hnone := fewL_none hgood hro
  have hex := fun (x : List Int) h1 h2 h3 => explains_p r hfit hgood hhd hen x h1 h2 h3
  have hF := fewL_few r
  generalize knownE r [] = K at hsome hnone ⊢
  generalize fewL r = F at hsome hnone hF ⊢
  have hH : (r.hands.toNat : Int) = r.hands := by omega
  simp -implicitDefEqProofs (maxSteps := 2000000) (disch := omega) only [go_sem, simprocAttr]
  obtain ⟨σ1, hσ1⟩ : ∃ σ1, σ1 = σ0 ++ [AObj.cells [.int .i64 r.hands, .int .i64 r.skill, .int .i64 r.mn, .int .i64 r.mx, .list .no 2 (r.sets.map Sg.av), .list .no 6 (r.ents.map Tn.av)]] := ⟨_, rfl⟩
  have hr0 : ∀ j, hget (σ1 ++ j) σ0.length = some (.cells [.int .i64 r.hands, .int .i64 r.skill, .int .i64 r.mn, .int .i64 r.mx, .list .no 2 (r.sets.map Sg.av), .list .no 6 (r.ents.map Tn.av)]) := fun j => by rw [hσ1, List.append_assoc]; exact hr1 j
  rw [← hσ1]
  clear hr1 hσ1
  generalize σ0.length = q at hr0 ⊢
  refine ARun.forS (Tryz.envOK (S := SBes) 78 Tryz.ord8 fs408 fs408_ok) (r.hands.toNat + 1) (fun i => ∀ m, m < i → hdue r m = []) (fun i => [(6, .int .i64 i)]) (fun _ j => σ1 ++ j) [] (by kernel_rfl) (by simp) (by simp [upd, ins, subF, lookA]) (fun m hm => by omega) ?_ ?_
  · intro i j hi hP ih
    have hiH : ((i : Int) ≤ r.hands) = True := eq_true (by omega)
    have hwi : IntKind.i64.wrap ((i : Int) + 1) = ((i + 1 : Nat) : Int) := by rw [wrap64 (by omega) (by omega)]; rfl
    simp -implicitDefEqProofs (maxSteps := 2000000) (disch := omega) only [go_sem, simprocAttr, hr0, hiH]
    have hcp := fun σ Q => hchoices_p (S := SBes) r.hands.toNat (by omega) i 0 (by omega) (by omega) σ Q
    rw [hH] at hcp
    refine hcp _ _ ?_
    have hdu : hdue r i = (hcomb r.hands.toNat i 0).filter fun l => decide (htruthsR r (entsL r) (setN l) ≠ []) := rfl
    have hC := hcomb_len4 (n := r.hands.toNat) (m := i) (a := 0) (by omega) (by omega)
    have hCm := fun x hx => @hcomb_mem r.hands.toNat i 0 x hx
    generalize hcomb r.hands.toNat i 0 = C at hC hdu hCm ⊢
    simp only [htss]
    simp -implicitDefEqProofs (maxSteps := 2000000) (disch := omega) only [go_sem, simprocAttr]
    refine ARun.ghost 8 1 (sz0 := 0) rfl (by simp [lookA]) ?_
    simp only [ins, ↓reduceIte, List.append_assoc, List.cons_append, List.nil_append, List.length_append, List.length_cons, List.length_nil, Nat.zero_add, Nat.reduceEqDiff, Nat.reduceAdd]
    have hDl : ∀ k, ((C.take k).filter fun l => decide (htruthsR r (entsL r) (setN l) ≠ [])).length ≤ 625 := fun k => Nat.le_trans (List.length_filter_le _ _) (by rw [List.length_take]; omega)
    refine ARun.forS (Tryz.envOK (S := SBes) 78 Tryz.ord8 fs408 fs408_ok) C.length (fun _ => True) (fun k => [(8, .list (.own (σ1.length + j.length)) 1 (((C.take k).filter fun l => decide (htruthsR r (entsL r) (setN l) ≠ [])).map ints1)), (9, .int .i64 k)]) (fun k j2 => σ1 ++ (j ++ (.tail ((C.take k).filter fun l => decide (htruthsR r (entsL r) (setN l) ≠ [])).length 1 :: j2))) [] (by kernel_rfl) (by simp) (by simp [upd, ins, subF, lookA]) trivial ?_ ?_
    · intro k j2 hk _ ih2
      have hidx : idx (C.map ints1) (k : Int) = some (ints1 C[k]) := idx_nat hk
      obtain ⟨e1, e2, e3⟩ := hCm _ (List.getElem_mem hk)
      have hDk := hDl k
      have hst : (C.take (k + 1)).filter (fun l => decide (htruthsR r (entsL r) (setN l) ≠ [])) = (C.take k).filter (fun l => decide (htruthsR r (entsL r) (setN l) ≠ [])) ++ if htruthsR r (entsL r) (setN C[k]) ≠ [] then [C[k]] else [] := by
        rw [List.take_succ_eq_append_getElem hk, List.filter_append, List.filter_cons, List.filter_nil]
        simp only [decide_eq_true_eq]
      rw [hst] at ih2
      clear hst hDl hdu
      have hxp := hex C[k] (fun x hx => by have := e2 x hx; omega) (by omega) e3
      generalize (C.take k).filter (fun l => decide (htruthsR r (entsL r) (setN l) ≠ [])) = D at hDk ih2 ⊢
      generalize C[k] = x at *
      have hwk : IntKind.i64.wrap ((k : Int) + 1) = ((k + 1 : Nat) : Int) := by rw [wrap64 (by omega) (by omega)]; rfl
      simp -implicitDefEqProofs (maxSteps := 2000000) (disch := omega) only [go_sem, simprocAttr, hr0, hidx, ints1]
      refine hxp _ _ ?_
      by_cases ht : htruthsR r (entsL r) (setN x) ≠ []
      · rw [decide_eq_true ht]
        rw [if_pos ht] at ih2
        simp -implicitDefEqProofs (maxSteps := 2000000) (disch := omega) only [go_sem, simprocAttr, hr0, hidx, ints1, hwk]
        exact (ih2 trivial j2).castS (by simp) (by simp [upd, ins, subF, lookA, ints1])
      · rw [decide_eq_false ht]
        rw [if_neg ht] at ih2
        simp -implicitDefEqProofs (maxSteps := 2000000) (disch := omega) only [go_sem, simprocAttr, hr0, hidx, hwk]
        exact (ih2 trivial j2).castS (by simp) (by simp [upd, ins, subF, lookA, ints1])
    · intro j2 _
      have hDk := hDl C.length
      rw [List.take_length] at hDk ⊢
      rw [← hdu] at hDk ⊢
      by_cases hne : hdue r i = []
      · rw [hne]
        simp -implicitDefEqProofs (maxSteps := 2000000) (disch := omega) only [go_sem, simprocAttr, hr0, hwi]
        exact (ih (fun m hm => by
          by_cases e : m = i
          · rw [e]; exact hne
          · exact hP m (by omega)) (j ++ (.tail 0 1 :: j2))).castS (by simp) (by simp [upd, ins, subF, lookA])
      · have hpos : 0 < (hdue r i).length := List.length_pos_iff.2 hne
        have hpos' : (0 < ((hdue r i).length : Int)) = True := eq_true (by omega)
        obtain ⟨rfl, rfl⟩ := hsome i (by omega) hne hP
        have hml : ((hdue r i).map ints1).length = (hdue r i).length := by simp
        have hel : ∀ x ∈ hdue r i, x.length ≤ 4294967296 := fun x hx => by
          have := hF.2 x hx; omega
        simp -implicitDefEqProofs (maxSteps := 2000000) (disch := omega) only [go_sem, simprocAttr, hr0, hwi, hml, hpos']
        refine ACalls.weaken (l' := [.list .no 1 ((hdue r i).map ints1), .list .no 1 ((hdue r i).map ints1)]) ⟨⟨rfl, .inl rfl, .inl rfl⟩, ⟨rfl, .inl rfl, .inl rfl⟩, trivial⟩ (hsameLists_p (hdue r i) (hdue r i) (by omega) (by omega) hel hel _ _ ?_)
        simp -implicitDefEqProofs (maxSteps := 2000000) (disch := omega) only [go_sem, simprocAttr, hr0, hwi, hml, hpos']
        refine steady_p _ _ ?_
        simp -implicitDefEqProofs (maxSteps := 2000000) (disch := omega) only [go_sem, simprocAttr]
  · intro j hP
    have hiH : (((r.hands.toNat + 1 : Nat) : Int) ≤ r.hands) = False := eq_false (by omega)
    obtain ⟨rfl, rfl⟩ := hnone fun m hm => hP m (by omega)
    simp -implicitDefEqProofs (maxSteps := 2000000) (disch := omega) only [go_sem, simprocAttr, hr0, hiH]
    refine steady_p _ _ ?_
    simp -implicitDefEqProofs (maxSteps := 2000000) (disch := omega) only [go_sem, simprocAttr]
end Go.Proofs
