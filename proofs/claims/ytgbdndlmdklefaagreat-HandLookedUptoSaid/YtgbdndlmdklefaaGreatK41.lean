/- Texts of a proof: lemmas. -/
import Derived.Test.YtgbdndlmdklefaaGreatK40
set_option linter.unusedSimpArgs false
set_option linter.unusedVariables false
set_option maxRecDepth 100000
namespace Go.Proofs
open Go Go.Mu Go.Ins

set_option maxHeartbeats 8000000 in
theorem handLooked_law (l : List Int) (hl : l.length ≤ 4294967296) (σ : List AObj) : ACalls SBes 10 [.list .no 1 (l.map (.int .i64))] σ fun v _ => v = .bool true := by
  refine ACalls.of_ev (E := Tryz.E (S := SBes) 98 (fun _ => ([], [])) fs408) (Tryz.envOK (S := SBes) 98 (fun _ => ([], [])) fs408 fs408_ok) Tryz.kp10 Tryz.func10 rfl (by kernel_rfl) (by simp [Tryz.E]) (Callable.of Tryz.func10 (by kernel_rfl) (by kernel_rfl)) (by kernel_rfl) ?_
  simp -implicitDefEqProofs (maxSteps := 2000000) (disch := omega) only [go_sem, simprocAttr]
  refine newPot_c l .no hl σ _ fun s1 j1 => ?_
  obtain ⟨τ, hτ⟩ : ∃ τ, τ = σ ++ (AObj.cells [.int .u64 s1] :: j1) := ⟨_, rfl⟩
  have hp : PotAt τ σ.length := ⟨s1, by rw [hτ]; exact hget_at0⟩
  rw [← hτ]
  obtain ⟨p, hpe⟩ : ∃ p, p = σ.length := ⟨_, rfl⟩
  rw [← hpe] at hp ⊢
  clear hτ hpe
  have hpl := hp.lt1
  simp -implicitDefEqProofs (maxSteps := 2000000) (disch := omega) only [go_sem, simprocAttr]
  refine rosterOf_c p 4 3 3 (by omega) (by omega) (by omega) τ hp _ fun s2 r rates by_ j2 hT => ?_
  have hfit := hT.fit (by omega)
  have hkn : ∀ ws, firstNZ ws = 0 → knownE r ws = 0 := fun ws => hT.known (by omega) (by omega) (by omega)
  have hh := hT.hands
  clear hT
  simp only [Ros.av, truAV, ints1]
  simp -implicitDefEqProofs (maxSteps := 2000000) (disch := omega) only [go_sem, simprocAttr, hlength_pw, hhget_pw0, hhget_pw, hhset_pw0, hhset_pw]
  have hr1 : ∀ j3, hget (pw τ p s2 ++ (j2 ++ (AObj.cells [.int .i64 r.hands, .int .i64 r.skill, .int .i64 r.mn, .int .i64 r.mx, .list .no 2 (r.sets.map Sg.av), .list .no 6 (r.ents.map Tn.av)] :: j3))) (τ.length + j2.length) = some (.cells [.int .i64 r.hands, .int .i64 r.skill, .int .i64 r.mn, .int .i64 r.mx, .list .no 2 (r.sets.map Sg.av), .list .no 6 (r.ents.map Tn.av)]) := fun j3 => by rw [hhget_pw]; simp
  refine fewest_p r hfit _ _ ?_
  simp -implicitDefEqProofs (maxSteps := 2000000) (disch := omega) only [go_sem, simprocAttr, hlength_pw, hhget_pw0, hhget_pw, hhset_pw0, hhset_pw, hr1]
  refine handNext_p r hfit _ _ ?_
  have hk0 : knownE r [] = 0 := hkn [] rfl
  have hH : (r.hands.toNat : Int) = r.hands := by omega
  rw [hk0, show nextL r = leastOf (worstH (fewL r)) (handsL r.hands.toNat) from if_pos hk0]
  obtain ⟨hF6, hF4⟩ := fewL_few r
  obtain ⟨g1, g2, g3, g4⟩ := leastOf_spec (worstH (fewL r)) (n := r.hands.toNat) (by omega)
  generalize leastOf (worstH (fewL r)) (handsL r.hands.toNat) = N at *
  obtain ⟨who, left⟩ := N
  simp only at g1 g2 g3 g4 ⊢
  generalize fewL r = F at *
  have k1 : (who < 0) = False := eq_false (by omega)
  have k2 : (r.hands ≤ who) = False := eq_false (by omega)
  simp -implicitDefEqProofs (maxSteps := 2000000) (disch := omega) only [go_sem, simprocAttr, hlength_pw, hhget_pw0, hhget_pw, hhset_pw0, hhset_pw, hr1, k1, k2]
  have hr0 := hr1 [AObj.cells [.list .no 1 (rates.map (.int .i64)), .list .no 1 (by_.map (.int .i64))]]
  generalize pw τ p s2 ++ (j2 ++ (AObj.cells [.int .i64 r.hands, .int .i64 r.skill, .int .i64 r.mn, .int .i64 r.mx, .list .no 2 (r.sets.map Sg.av), .list .no 6 (r.ents.map Tn.av)] :: [AObj.cells [.list .no 1 (rates.map (.int .i64)), .list .no 1 (by_.map (.int .i64))]])) = σ1 at hr0 ⊢
  clear hr1
  generalize τ.length + j2.length = k at hr0 ⊢
  refine ARun.forS (Tryz.envOK (S := SBes) 98 (fun _ => ([], [])) fs408 fs408_ok) r.hands.toNat (fun _ => True) (fun i => [(10, .int .i64 i)]) (fun _ _ => σ1) [] (by kernel_rfl) rfl (by simp [upd, ins, subF, lookA]) trivial ?_ ?_
  · intro i j hi _ ih
    have hiH : ((i : Int) < r.hands) = True := eq_true (by omega)
    have hwi : IntKind.i64.wrap ((i : Int) + 1) = ((i + 1 : Nat) : Int) := by rw [wrap64 (by omega) (by omega)]; rfl
    simp -implicitDefEqProofs (maxSteps := 2000000) (disch := omega) only [go_sem, simprocAttr, hr0, hiH]
    refine ARun.forS (Tryz.envOK (S := SBes) 98 (fun _ => ([], [])) fs408 fs408_ok) F.length (fun _ => True) (fun m => [(11, .int .i64 (cntL (F.take m) i : Nat)), (12, .int .i64 m)]) (fun _ _ => σ1) [] (by kernel_rfl) rfl (by simp [upd, ins, subF, lookA, cntL]) trivial ?_ ?_
    · intro m jm hm _ ih2
      have hidx : idx (F.map ints1) (m : Int) = some (ints1 F[m]) := idx_nat hm
      have hxl := hF4 _ (List.getElem_mem hm)
      have hle : cntL (F.take m) i ≤ m := by unfold cntL; exact Nat.le_trans (List.length_filter_le _ _) (by simp; omega)
      rw [cntL_succ hm] at ih2
      generalize cntL (F.take m) i = c at hle ih2 ⊢
      generalize F[m] = x at hidx hxl ih2
      have hnn := hplace_nonneg (l := x) (x := (i : Int))
      simp -implicitDefEqProofs (maxSteps := 2000000) (disch := omega) only [go_sem, simprocAttr, hr0, hidx, ints1]
      refine hplace_p x i (by omega) _ _ ?_
      cases hc : x.contains (i : Int)
      · rw [hc] at ih2 hnn
        have hn' : (0 ≤ hplaceL x (i : Int)) = False := by simpa using hnn
        simp -implicitDefEqProofs (maxSteps := 2000000) (disch := omega) only [go_sem, simprocAttr, hr0, hn']
        exact (ih2 trivial []).castS rfl (by simp [upd, ins, subF, lookA])
      · rw [hc] at ih2 hnn
        have hn' : (0 ≤ hplaceL x (i : Int)) = True := by simpa using hnn
        have hwc : IntKind.i64.wrap ((c : Int) + 1) = ((c + 1 : Nat) : Int) := by rw [wrap64 (by omega) (by omega)]; rfl
        simp -implicitDefEqProofs (maxSteps := 2000000) (disch := omega) only [go_sem, simprocAttr, hr0, hn', hwc]
        exact (ih2 trivial []).castS rfl (by simp [upd, ins, subF, lookA])
    · intro jm _
      rw [List.take_length]
      have q1 := g2 i (by omega) (by omega)
      have q2 := g3 i (by omega)
      have hwd : (if (cntL F i : Int) < (F.length : Int) - cntL F i then (F.length : Int) - cntL F i else (cntL F i : Int)) = worstH F i := rfl
      have hcl : cntL F i ≤ F.length := by unfold cntL; exact List.length_filter_le _ _
      have hww : IntKind.i64.wrap ((F.length : Int) - cntL F i) = (F.length : Int) - cntL F i := wrap64 (by omega) (by omega)
      have b1 : (worstH F i < left) = False := eq_false (by omega)
      by_cases e1 : (i : Int) = who
      · have e1' : ((i : Int) = who) = True := eq_true e1
        have e2' : ((i : Int) < who) = False := eq_false (by omega)
        have b2 : (worstH F i = left) = True := eq_true (by rw [g4, ← e1])
        simp -implicitDefEqProofs (maxSteps := 2000000) (disch := omega) only [go_sem, simprocAttr, hr0, hwd, hww, b1, b2, e1', e2', hwi]
        exact (ih trivial []).castS rfl (by simp [upd, ins, subF, lookA])
      · have e1' : ((i : Int) = who) = False := eq_false e1
        by_cases e2 : (i : Int) < who
        · have e2' : ((i : Int) < who) = True := eq_true e2
          have b2 : (worstH F i = left) = False := eq_false (by have := q2 e2; omega)
          simp -implicitDefEqProofs (maxSteps := 2000000) (disch := omega) only [go_sem, simprocAttr, hr0, hwd, hww, b1, b2, e1', e2', hwi]
          exact (ih trivial []).castS rfl (by simp [upd, ins, subF, lookA])
        · have e2' : ((i : Int) < who) = False := eq_false e2
          simp -implicitDefEqProofs (maxSteps := 2000000) (disch := omega) only [go_sem, simprocAttr, hr0, hwd, hww, b1, e1', e2', hwi]
          exact (ih trivial []).castS rfl (by simp [upd, ins, subF, lookA])
  · intro j _
    have hiH : (((r.hands.toNat : Nat) : Int) < r.hands) = False := eq_false (by omega)
    simp -implicitDefEqProofs (maxSteps := 2000000) (disch := omega) only [go_sem, simprocAttr, hr0, hiH]
    refine steady_p _ _ ?_
    simp -implicitDefEqProofs (maxSteps := 2000000) (disch := omega) only [go_sem, simprocAttr]
end Go.Proofs
