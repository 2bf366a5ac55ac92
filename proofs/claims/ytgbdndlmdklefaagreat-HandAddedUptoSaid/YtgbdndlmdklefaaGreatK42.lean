/- Texts of a proof: lemmas. -/
import Derived.Test.YtgbdndlmdklefaaGreatK41
import Derived.Test.YtgbdndlmdklefaaGreatK40
set_option linter.unusedSimpArgs false
set_option linter.unusedVariables false
set_option maxRecDepth 100000
namespace Go.Proofs
open Go Go.Mu Go.Ins
def withV (r : Ros) (x : Tn) : AV := if knownE (r.snoc x) [] = 0 then (r.snoc x).av else ros0
theorem ros0_plain : Plain ros0 := .agg (by
 simp only [List.mem_cons, List.not_mem_nil, or_false, forall_eq_or_imp, forall_eq]
 exact ⟨.int, .int, .int, .int, .list0, .list0⟩)
theorem with1_p (r : Ros) (x : Tn) (hf : r.Fit) (hhd : headE r = 0) (hen : entsE r = 0) (hl : r.ents.length ≤ 4) (hx : (chkE x r.hands).2 = 0) (hx1 : x.ear.tones.length ≤ 1000000) (hx2 : x.ear.rds.length ≤ 1000000) :
  PureV SBes 62 [r.av, x.av] (.tup [withV r x, .int .i64 (knownE (r.snoc x) [])]) := by
 intro σ Q hq
 refine ACalls.clean (with_c r x hf hhd hen hl hx hx1 hx2 (fun hK j => ?_) fun hK j => ?_)
 ·rw [show withV r x = ros0 from if_neg hK] at hq
  exact ⟨_, j, rfl, Weak.refl _, (Plain.tup (by simp only [List.mem_cons, List.not_mem_nil, or_false, forall_eq_or_imp, forall_eq]; exact ⟨ros0_plain, .int⟩)) _, hq⟩
 ·rw [show withV r x = (r.snoc x).av from if_pos hK, hK] at hq
  exact ⟨_, j, rfl, Weak.refl _, (Plain.tup (by simp only [List.mem_cons, List.not_mem_nil, or_false, forall_eq_or_imp, forall_eq]; exact ⟨Ros.plain _, .int⟩)) _, hq⟩
theorem idx0 (a : AV) (l : List AV) : idx (a :: l) 0 = some a := rfl
set_option maxHeartbeats 8000000 in
theorem handAdded_law (l : List Int) (hl : l.length ≤ 4294967296) (σ : List AObj) : ACalls SBes 13 [.list .no 1 (l.map (.int .i64))] σ fun v _ => v = .bool true := by
 refine AcE (Tryz.envOK (S := SBes) 160 Tryz.ord13 fs408 fs408_ok) Tryz.kp13 Tryz.func13 rfl ?_
 simp -implicitDefEqProofs (maxSteps := 2000000) (disch := omega) only [go_sem, simprocAttr]
 refine newPot_c l .no hl σ _ fun s1 j1 => ?_
 obtain ⟨τ, hτ⟩ : ∃ τ, τ = σ ++ (AObj.cells [.int .u64 s1] :: j1) := ⟨_, rfl⟩
 have hp : PotAt τ σ.length := ⟨s1, by rw [hτ]; exact hget_at0⟩
 rw [← hτ]
 obtain ⟨p, hpe⟩ : ∃ p, p = σ.length := ⟨_, rfl⟩
 rw [← hpe] at hp ⊢
 clear hτ hpe
 have hpl := hp.lt1
 simp -implicitDefEqProofs (maxSteps := 2000000) (disch := omega) only [go_sem, simprocAttr]
 refine rosterOf_c p 3 4 3 (by omega) (by omega) (by omega) τ hp _ fun s2 r rates by_ j2 hT => ?_
 have hfit := hT.fit (by omega)
 have hk0 : knownE r [] = 0 := hT.known (by omega) (by omega) (by omega) rfl
 have hh := hT.hands
 have hsk := hT.skill
 have hhd := hT.head (by omega) (by omega)
 have hen := hT.entE (by omega)
 have hel := hT.el
 have hsl := hT.sl
 have hro : rosE r = 0 := hT.ro (by omega) (by omega) (by omega)
 have hg := Ros.good_of hhd hen
 simp only [Ros.av, truAV, ints1]
 simp -implicitDefEqProofs (maxSteps := 2000000) (disch := omega) only [go_sem, simprocAttr, hlength_pw, hhget_pw0, hhget_pw, hhset_pw0, hhset_pw]
 have hmn := hT.mn
 have hmx := hT.mx
 refine tunedOf_c p r rates by_ 3 (by omega) (by omega) hsk hT.rl (fun n hn => by rcases hT.rate n hn with g | g <;> omega) (by omega) _ (hp.pw _).app1 _ fun s3 x b j3 hx => ?_
 rw [hpw_pwa hpl]
 have hT2 := hT.snoc hx
 have hk2 : knownE (r.snoc x) [] = 0 := hT2.known (by omega) (by omega) (by omega) rfl
 have hro2 : rosE (r.snoc x) = 0 := hT2.ro (by omega) (by omega) (by omega)
 have hfit2 : (r.snoc x).Fit := hT2.fit (by omega)
 have hg2 := Ros.good_of (hT2.head (by omega) (by omega)) (hT2.entE (by omega))
 have hxc := (trueT_chk hx (by omega) hsk).1
 have hxe : x.ear.tones.length ≤ 1000000 ∧ x.ear.rds.length ≤ 1000000 := hfit2.ear x (by show x ∈ r.ents ++ [x]; simp)
 clear hT2
 simp only [Tn.av, Tn.cells]
 obtain ⟨f0, F, hF⟩ : ∃ f0 F, fewL r = f0 :: F := by
  obtain ⟨m, _, a2, a3, _⟩ := fewL_of hg hro hk0
  rw [← a2] at a3
  exact List.exists_cons_of_ne_nil a3
 obtain ⟨hF6, hF4⟩ := fewL_few r
 rw [hF] at hF6 hF4
 have hf04 := hF4 f0 (by simp)
 obtain ⟨g0, G, hG, hfg, hg04, hG5, hGx, hGs⟩ := few_cons hg hro hk0 hg2 hro2 hk2 rfl snoc_sub hF
 have hfew := fewest_p r hfit
 have hfew2 := fewest_p (r.snoc x) hfit2
 rw [hk0, hF] at hfew
 rw [hk2, hG] at hfew2
 have hwp := with1_p r x hfit hhd hen (by omega) hxc hxe.1 hxe.2
 rw [show withV r x = (r.snoc x).av from if_pos hk2, hk2] at hwp
 simp only [List.length_cons] at hF6
 simp only [List.map_cons, ints1, Ros.av, Tn.av, Tn.cells] at hfew hfew2 hwp
 simp -implicitDefEqProofs (maxSteps := 2000000) (disch := omega) only [go_sem, simprocAttr, hlength_pw, hhget_pw0, hhget_pw, hhset_pw0, hhset_pw]
 refine hfew _ _ ?_
 simp -implicitDefEqProofs (maxSteps := 2000000) (disch := omega) only [go_sem, simprocAttr, hlength_pw, hhget_pw0, hhget_pw, hhset_pw0, hhset_pw]
 refine hwp _ _ ?_
 simp -implicitDefEqProofs (maxSteps := 2000000) (disch := omega) only [go_sem, simprocAttr, hlength_pw, hhget_pw0, hhget_pw, hhset_pw0, hhset_pw]
 refine hfew2 _ _ ?_
 have hlf : ((g0.length : Int) < f0.length) = False := eq_false (by omega)
 simp -implicitDefEqProofs (maxSteps := 2000000) (disch := omega) only [go_sem, simprocAttr, hlength_pw, hhget_pw0, hhget_pw, hhset_pw0, hhset_pw, idx0, hlf]
 obtain ⟨σ1, hσ1⟩ : ∃ σ1, σ1 = pw τ p s3 ++ (j2 ++ AObj.cells [.int .i64 r.hands, .int .i64 r.skill, .int .i64 r.mn, .int .i64 r.mx, .list .no 2 (r.sets.map Sg.av), .list .no 6 (r.ents.map Tn.av)] :: AObj.cells [.list .no 1 (rates.map (.int .i64)), .list .no 1 (by_.map (.int .i64))] :: (j3 ++ [AObj.cells [.int .i64 x.day, .int .i64 x.hand, .int .i64 x.due, .int .i64 x.ear.slack, .list .no 2 (x.ear.tones.map Rng.av), .list .no 6 (x.ear.rds.map Rd.av)], AObj.cells [.int .i64 (r.snoc x).hands, .int .i64 (r.snoc x).skill, .int .i64 (r.snoc x).mn, .int .i64 (r.snoc x).mx, .list .no 2 ((r.snoc x).sets.map Sg.av), .list .no 6 ((r.snoc x).ents.map Tn.av)]])) := ⟨_, rfl⟩
 have hr3 : ∀ j, hget (σ1 ++ j) (τ.length + j2.length) = some (AObj.cells [.int .i64 r.hands, .int .i64 r.skill, .int .i64 r.mn, .int .i64 r.mx, .list .no 2 (r.sets.map Sg.av), .list .no 6 (r.ents.map Tn.av)]) := fun j => by rw [hσ1, List.append_assoc, hhget_pw]; simp
 have ht3 : ∀ j, hget (σ1 ++ j) (τ.length + (j2.length + 1)) = some (AObj.cells [.list .no 1 (rates.map (.int .i64)), .list .no 1 (by_.map (.int .i64))]) := fun j => by rw [hσ1, List.append_assoc, hhget_pw]; simp
 rw [← hσ1]
 clear hσ1 hfew2 hwp hk2 hro2 hfit2 hg2 hG hGs hGx hxc hxe
 generalize τ.length + j2.length = q at hr3 ⊢
 generalize τ.length + (j2.length + 1) = q5 at ht3 ⊢
 generalize τ.length + (j2.length + (j3.length + 1 + 1)) = q6
 generalize τ.length + (j2.length + (j3.length + 1 + 1 + 1)) = q10
 have hbl := hT.bl
 refine ARun.forS (Tryz.envOK (S := SBes) 160 Tryz.ord13 fs408 fs408_ok) by_.length (fun _ => True) (fun i => [(14, .int .i64 i)]) (fun _ j => σ1 ++ j) [] (by kernel_rfl) (by simp) (by simp [upd, ins, subF, lookA]) trivial ?_ ?_
 ·intro i j hi _ ih
  have hib : idx (by_.map (AV.int .i64)) (i : Int) = some (.int .i64 by_[i]) := by rw [idx_nat hi]
  have hwi : IntKind.i64.wrap ((i : Int) + 1) = ((i + 1 : Nat) : Int) := by rw [wrap64 (by omega) (by omega)]; rfl
  have hir : i < r.ents.length := by omega
  have hTi := hT.ent i hir hi
  have hT3 := hT.told hir hi
  have hge : r.ents.getD i default = r.ents[i] := by simp [List.getD, List.getElem?_eq_getElem hir]
  have hts := told_truth hir (b := by_[i]) hTi.by_in (by rw [hge]; exact hTi.hand)
  generalize by_[i] = b3 at *
  have hk3 : knownE (toldR r i b3) [] = 0 := hT3.known (by omega) (by omega) (by omega) rfl
  have hro3 : rosE (toldR r i b3) = 0 := hT3.ro (by omega) (by omega) (by omega)
  have hg3 := Ros.good_of (hT3.head (by omega) (by omega)) (hT3.entE (by omega))
  obtain ⟨c0, D, hD, hfc, hc04, hD5, hDx, hDs⟩ := few_cons hg hro hk0 hg3 hro3 hk3 rfl hts hF
  have hfew3 := fewest_p (toldR r i b3) (hT3.fit (by omega))
  rw [hk3, hD] at hfew3
  have hto : (toldR r i b3).av = .agg [.int .i64 r.hands, .int .i64 r.skill, .int .i64 r.mn, .int .i64 r.mx, .list .no 2 (r.sets.map Sg.av), .list .no 6 ((toldR r i b3).ents.map Tn.av)] := rfl
  rw [hto] at hfew3
  simp only [List.map_cons, ints1] at hfew3
  have hgx : (r.ents.map Tn.av)[i]? = some (Tn.av (r.ents.getD i default)) := by rw [hge]; simp [List.getElem?_eq_getElem hir]
  have hset : (r.ents.map Tn.av).set i (Tn.av (handX (r.ents.getD i default) b3)) = (toldR r i b3).ents.map Tn.av := by unfold toldR; rw [List.map_set]
  have hlen3 : ((toldR r i b3).ents.map Tn.av).length = r.ents.length := by simp [toldR]
  generalize r.ents.getD i default = t at hgx hset
  have hav : t.av = .agg [.int .i64 t.day, .int .i64 t.hand, .int .i64 t.due, .int .i64 t.ear.slack, .list .no 2 (t.ear.tones.map Rng.av), .list .no 6 (t.ear.rds.map Rd.av)] := rfl
  have hav2 : (handX t b3).av = .agg [.int .i64 t.day, .int .i64 b3, .int .i64 t.due, .int .i64 t.ear.slack, .list .no 2 (t.ear.tones.map Rng.av), .list .no 6 (t.ear.rds.map Rd.av)] := rfl
  rw [hav] at hgx
  rw [hav2] at hset
  generalize (toldR r i b3).ents.map Tn.av = L3 at hset hlen3 hfew3
  obtain ⟨σ2, hσ2⟩ : ∃ σ2, σ2 = σ1 ++ j := ⟨_, rfl⟩
  have hr4 : ∀ k, hget (σ2 ++ k) q = some (AObj.cells [.int .i64 r.hands, .int .i64 r.skill, .int .i64 r.mn, .int .i64 r.mx, .list .no 2 (r.sets.map Sg.av), .list .no 6 (r.ents.map Tn.av)]) := fun k => by rw [hσ2, List.append_assoc]; exact hr3 _
  have ht4 : ∀ k, hget (σ2 ++ k) q5 = some (AObj.cells [.list .no 1 (rates.map (.int .i64)), .list .no 1 (by_.map (.int .i64))]) := fun k => by rw [hσ2, List.append_assoc]; exact ht3 _
  have hr40 := hr4 []
  have ht40 := ht4 []
  rw [List.append_nil] at hr40 ht40
  have ih' : ∀ k, _ := fun k => ih trivial (j ++ k)
  simp only [← List.append_assoc] at ih'
  rw [← hσ2] at ih' ⊢
  clear ih hT3 hTi
  simp -implicitDefEqProofs (maxSteps := 2000000) (disch := omega) only [go_sem, simprocAttr, hr4, ht4, hr40, ht40]
  refine copyRoster_c r (by omega) (by omega) hfit.ear _ _ fun a1 a2 a3 j4 => ?_
  simp only [Ros.avv]
  simp -implicitDefEqProofs (maxSteps := 2000000) (disch := omega) only [go_sem, simprocAttr, hr4, ht4, hib, hgx, hset, hlen3]
  refine ACalls.freezeA (σ2.length + (4 + j4.length)) 5 (r := σ2.length + 3) (n := r.ents.length) (sz := 6) (xs := L3) (by rw [hget_at]; simp [show 4 + j4.length = j4.length + 4 by omega]) rfl (by rw [hget_at]; rfl) hlen3 ?_
  rw [hset_at, hset_at]
  simp only [List.set_cons_succ, List.set_cons_zero]
  generalize hL' : List.set _ (4 + j4.length) _ = L'
  clear hL' hgx hset
  refine hfew3 _ _ ?_
  have hlc : ((c0.length : Int) < f0.length) = False := eq_false (by omega)
  simp -implicitDefEqProofs (maxSteps := 2000000) (disch := omega) only [go_sem, simprocAttr, hr4, ht4, hib, idx0, hlc]
  by_cases hce : c0.length = f0.length
  ·have hce' : ((c0.length : Int) = f0.length) = True := eq_true (by omega)
   have hDs' := hDs hce
   clear hDs
   refine ARun.forS (Tryz.envOK (S := SBes) 160 Tryz.ord13 fs408 fs408_ok) (D.length + 1) (fun _ => True) (fun i => [(18, .int .i64 i)]) (fun _ _ => σ2 ++ L') [] (by kernel_rfl) rfl (by simp [upd, ins, subF, lookA]) trivial ?_ ?_
   ·intro n jn hn _ ihn
    have hidn : idx (AV.list .no 1 (c0.map (.int .i64)) :: D.map ints1) (n : Int) = some (.list .no 1 (((c0 :: D)[n]'(by simpa using hn)).map (.int .i64))) := idx_nat (f := ints1) (l := c0 :: D) (by simpa using hn)
    have hyF := hDs' _ (List.getElem_mem (l := c0 :: D) (n := n) (by simpa using hn))
    have hy4 := hDx _ (List.getElem_mem (l := c0 :: D) (n := n) (by simpa using hn))
    generalize (c0 :: D)[n]'(by simpa using hn) = y at *
    have hwn : IntKind.i64.wrap ((n : Int) + 1) = ((n + 1 : Nat) : Int) := by rw [wrap64 (by omega) (by omega)]; rfl
    have hnl : ((n : Int) < (D.length : Int) + 1) = True := eq_true (by omega)
    simp -implicitDefEqProofs (maxSteps := 2000000) (disch := omega) only [go_sem, simprocAttr, idx0, hce', hnl]
    refine ARun.forS (Tryz.envOK (S := SBes) 160 Tryz.ord13 fs408 fs408_ok) (F.length + 1) (fun _ => True) (fun m => [(19, .bool (((f0 :: F).take m).any fun z => decide (z = y))), (20, .int .i64 m)]) (fun _ _ => σ2 ++ L') [] (by kernel_rfl) rfl (by simp [upd, ins, subF, lookA]) trivial ?_ ?_
    ·intro m jm hm _ ihm
     have hidm : idx (AV.list .no 1 (f0.map (.int .i64)) :: F.map ints1) (m : Int) = some (.list .no 1 (((f0 :: F)[m]'(by simpa using hm)).map (.int .i64))) := idx_nat (f := ints1) (l := f0 :: F) (by simpa using hm)
     have hz4 := hF4 _ (List.getElem_mem (l := f0 :: F) (n := m) (by simpa using hm))
     have hst : ((f0 :: F).take (m + 1)).any (fun z => decide (z = y)) = (((f0 :: F).take m).any (fun z => decide (z = y)) || decide ((f0 :: F)[m]'(by simpa using hm) = y)) := by
      rw [List.take_succ_eq_append_getElem (by simpa using hm), List.any_append]; simp
     rw [hst] at ihm
     clear hst
     generalize (f0 :: F)[m]'(by simpa using hm) = z at *
     generalize ((f0 :: F).take m).any (fun z => decide (z = y)) = B at *
     have hwm : IntKind.i64.wrap ((m : Int) + 1) = ((m + 1 : Nat) : Int) := by rw [wrap64 (by omega) (by omega)]; rfl
     have hml : ((m : Int) < (F.length : Int) + 1) = True := eq_true (by omega)
     cases B
     ·by_cases hzy : z = y
      ·have hzy' : (z = y) = True := eq_true hzy
       rw [decide_eq_true hzy] at ihm
       simp -implicitDefEqProofs (maxSteps := 2000000) (disch := omega) only [go_sem, simprocAttr, hidn, hidm, hml, hwm, hzy']
       exact (ihm trivial []).castS rfl (by simp [upd, ins, subF, lookA])
      ·have hzy' : (z = y) = False := eq_false hzy
       rw [decide_eq_false hzy] at ihm
       simp -implicitDefEqProofs (maxSteps := 2000000) (disch := omega) only [go_sem, simprocAttr, hidn, hidm, hml, hwm, hzy']
       exact (ihm trivial []).castS rfl (by simp [upd, ins, subF, lookA])
     ·simp -implicitDefEqProofs (maxSteps := 2000000) (disch := omega) only [go_sem, simprocAttr, hidn, hidm, hml, hwm]
      exact (ihm trivial []).castS rfl (by simp [upd, ins, subF, lookA])
    ·intro jm _
     have hal : ((f0 :: F).take (F.length + 1)).any (fun z => decide (z = y)) = true := by
      have : (f0 :: F).take (F.length + 1) = f0 :: F := List.take_of_length_le (by simp)
      rw [this, List.any_eq_true]
      exact ⟨y, hyF, by simp⟩
     rw [hal]
     have hml : (((F.length + 1 : Nat) : Int) < (F.length : Int) + 1) = False := eq_false (by omega)
     simp -implicitDefEqProofs (maxSteps := 2000000) (disch := omega) only [go_sem, simprocAttr, hml, hwn]
     exact (ihn trivial []).castS rfl (by simp [upd, ins, subF, lookA])
   ·intro jn _
    have hnl : (((D.length + 1 : Nat) : Int) < (D.length : Int) + 1) = False := eq_false (by omega)
    simp -implicitDefEqProofs (maxSteps := 2000000) (disch := omega) only [go_sem, simprocAttr, idx0, hce', hnl, hwi]
    exact (ih' L').castS rfl (by simp [upd, ins, subF, lookA])
  ·have hce' : ((c0.length : Int) = f0.length) = False := eq_false (by omega)
   have hnl : ((0 : Int) < (D.length : Int) + 1) = True := eq_true (by omega)
   refine ARun.forS (Tryz.envOK (S := SBes) 160 Tryz.ord13 fs408 fs408_ok) 0 (fun _ => True) (fun i => [(18, .int .i64 i)]) (fun _ _ => σ2 ++ L') [] (by kernel_rfl) rfl (by simp [upd, ins, subF, lookA]) trivial (fun n jn hn => by omega) ?_
   intro jn _
   simp -implicitDefEqProofs (maxSteps := 2000000) (disch := omega) only [go_sem, simprocAttr, idx0, hce', hnl, hwi]
   exact (ih' L').castS rfl (by simp [upd, ins, subF, lookA])
 ·intro j _
  simp -implicitDefEqProofs (maxSteps := 2000000) (disch := omega) only [go_sem, simprocAttr, ht3]
  refine steady_p _ _ ?_
  simp -implicitDefEqProofs (maxSteps := 2000000) (disch := omega) only [go_sem, simprocAttr]
end Go.Proofs
