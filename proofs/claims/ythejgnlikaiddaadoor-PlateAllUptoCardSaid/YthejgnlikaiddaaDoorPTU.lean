/- Texts of a proof: lemmas. -/
import Derived.Test.YthejgnlikaiddaaDoorPTS1
import Derived.Test.YthejgnlikaiddaaDoorMuLm
set_option linter.unusedSimpArgs false
set_option linter.unusedVariables false
set_option maxRecDepth 100000
namespace Go.Proofs
open Go Go.Mu

theorem hget_5 {σ j l : List AObj} {x1 x2 x3 x4 m : AObj} : hget (σ ++ (x1 :: x2 :: x3 :: x4 :: (j ++ (m :: l)))) (σ.length + (j.length + 4)) = some m := by
  have e : σ ++ (x1 :: x2 :: x3 :: x4 :: (j ++ (m :: l))) = (σ ++ (x1 :: x2 :: x3 :: x4 :: j)) ++ (m :: l) := by simp
  have e2 : σ.length + (j.length + 4) = (σ ++ (x1 :: x2 :: x3 :: x4 :: j)).length := by simp
  rw [e, e2, hget_at0]; rfl
/-- What is said of an instrument without truth. -/
theorem none_said {c : Cat} {o : Old} (hv : ckOld c o = 0) (hL : truthsM c o = []) (h1 : 1 ≤ c.features) : fitsM c o = ([], 9) ∧ yearsM c o = (⟨0, 0⟩, 9) ∧ numbersM c o = (⟨0, 0⟩, 9) ∧ alteredM c o = ([], 9) ∧ knownFM c o 0 = ([], 9) := by
  have hk : ∀ ws, firstE id ws = 0 → knownM c o ws = ([], 9) := fun ws hw => by unfold knownM; rw [if_neg (by simp [hv]), if_neg (by simp [hw]), if_pos hL]
  have h0 := hk [] rfl
  have hf : featE c 0 = 0 := by unfold featE; rw [if_pos (by omega)]
  have h2 := hk [featE c 0] (by rw [hf]; rfl)
  refine ⟨?_, ?_, ?_, ?_, ?_⟩
  · unfold fitsM; rw [h0]; rfl
  · unfold yearsM; rw [h0]; rfl
  · unfold numbersM; rw [h0]; rfl
  · unfold alteredM; rw [h0]; rfl
  · unfold knownFM; rw [h2]; rfl
/-- What is said of one with truths. -/
theorem some_said {c : Cat} {o : Old} (hC : OkC c) (hO : OkO c o) (hv : ckOld c o = 0) (hL : truthsM c o ≠ []) :
    fitsM c o = ((truthsM c o).map Made.pair, 0) ∧ yearsM c o = (allY (truthsM c o), 0) ∧ numbersM c o = (allN o.plate (truthsM c o), 0) ∧ alteredM c o = (altP o.seen (truthsM c o) o.seen.length, 0) ∧ ∀ f : Nat, f < o.seen.length → knownFM c o f = (dueL (truthsM c o) f 3, 0) := by
  have hk : knownM c o [] = (truthsM c o, 0) := by unfold knownM; rw [if_neg (by simp [hv]), if_neg (by simp [firstE]), if_neg hL]
  have hk0 : (knownM c o []).2 = 0 := by rw [hk]
  have hall : ∀ m ∈ truthsM c o, m ∈ allMade c ∧ numsP m.nums o.plate ≠ [] := fun m hm => by
    obtain ⟨h1, h2⟩ := mem_truths.1 hm
    refine ⟨h1, fun e => ?_⟩
    have := (isTrue_iff.1 h2).2
    unfold fitsP at this; rw [e] at this; simp at this
  have hfe := hC.features
  have hls := hO.seen.1
  refine ⟨?_, ?_, ?_, ?_, ?_⟩
  · unfold fitsM; rw [if_pos hk0]
  · unfold yearsM; rw [if_pos hk0, allY_eq hL fun m hm => ?_]
    obtain ⟨q, k, hq, hkq, rfl⟩ := all_mem (hall m hm).1
    have hgd : c.models.getD q default = c.models[q] := by simp [List.getD, List.getElem?_eq_getElem hq]
    rw [hgd] at hkq ⊢
    have hM := hC.model _ (List.getElem_mem hq)
    have h1 := hM.first
    have h2 := hM.looks
    have : (madeOf q c.models[q] k).year = (c.models[q]).first + (k : Int) := rfl
    omega
  · unfold numbersM; rw [if_pos hk0, allN_eq hL fun m hm => ⟨allMade_ok hC m (hall m hm).1, (hall m hm).2⟩]
  · unfold alteredM; rw [if_pos hk0]
  · intro f hf
    rw [dueL_eq fun m hm => ?_]
    · exact knownF_val hv hL ⟨by omega, by omega⟩
    · obtain ⟨q, k, hq, hkq, rfl⟩ := all_mem (hall m hm).1
      have hgd : c.models.getD q default = c.models[q] := by simp [List.getD, List.getElem?_eq_getElem hq]
      rw [hgd] at hkq ⊢
      have hM := hC.model _ (List.getElem_mem hq)
      have hl := hM.look _ (List.getElem_mem hkq)
      have hg1 : (c.models[q]).looks.getD k [] = (c.models[q]).looks[k] := by simp [List.getD, List.getElem?_eq_getElem hkq]
      have e : tg (madeOf q c.models[q] k).look (f : Int) = tg (c.models[q]).looks[k] (f : Int) := by
        rw [made_look, tg_pad (by omega), hg1]
      rw [e, tgE (by omega)]
      exact hl.2 _ (List.getElem_mem _)
set_option maxHeartbeats 400000000 in
theorem plateAll_c (nums : List Int) (hl : nums.length ≤ 4294967296) (σ : List AObj) : ACalls Tryd.prog 7 [.list .no 1 (nums.map (.int .i64))] σ (fun v _ => v = .bool true) := by
  refine ACalls.of_ev (E := Tryd.Ev 398 Tryd.ordP fs60) (Tryd.envOKV 398 Tryd.ordP fs60 fs60_ok) Tryd.kp7 Tryd.func7 rfl (by kernel_rfl) (by simp [Tryd.Ev]) (Callable.of Tryd.func7 (by kernel_rfl) (by kernel_rfl)) (by kernel_rfl) ?_
  simp -implicitDefEqProofs (maxSteps := 2000000) (disch := omega) only [go_sem, reduceCtorEq, Nat.reduceAdd, Nat.reduceSub, Nat.reduceMul, Nat.reduceLT, Nat.reduceLeDiff, Nat.reduceEqDiff, Nat.reduceBEq, Int.reduceToNat, Int.reduceLT, Int.reduceLE, Int.reduceEq, Int.reduceNeg, Int.reduceAdd, Int.reduceSub, Int.reduceMul, ↓reduceIte, Int.reduceBEq, Int.reduceBNe]
  refine newPot_c nums .no hl _ _ fun s0 junk0 => ?_
  have hp : PotAt (σ ++ (.cells [.int .u64 s0] :: junk0)) σ.length := ⟨s0, by rw [hget_at0]; rfl⟩
  generalize σ ++ (.cells [.int .u64 s0] :: junk0) = σ1 at hp ⊢
  generalize σ.length = r at hp ⊢
  simp -implicitDefEqProofs (maxSteps := 2000000) (disch := omega) only [go_sem, reduceCtorEq, Nat.reduceAdd, Nat.reduceSub, Nat.reduceMul, Nat.reduceLT, Nat.reduceLeDiff, Nat.reduceEqDiff, Nat.reduceBEq, Int.reduceToNat, Int.reduceLT, Int.reduceLE, Int.reduceEq, Int.reduceNeg, Int.reduceAdd, Int.reduceSub, Int.reduceMul, ↓reduceIte, Int.reduceBEq, Int.reduceBNe]
  refine catalogueOf_c r 3 3 (by omega) (by omega) _ hp _ fun s1 c junk1 hC _ _ => ?_
  replace hp : PotAt (pw σ1 r s1 ++ junk1) r := (hp.pw s1).app
  generalize pw σ1 r s1 ++ junk1 = σ2 at hp ⊢
  clear junk0 junk1
  have hr := hp.lt
  have hcat := okCat_of hC
  have hcav : c.av = .agg [.int .i64 c.features, .list .no 3 (c.models.map Model.av)] := rfl
  simp -implicitDefEqProofs (maxSteps := 2000000) (disch := omega) only [go_sem, reduceCtorEq, Nat.reduceAdd, Nat.reduceSub, Nat.reduceMul, Nat.reduceLT, Nat.reduceLeDiff, Nat.reduceEqDiff, Nat.reduceBEq, Int.reduceToNat, Int.reduceLT, Int.reduceLE, Int.reduceEq, Int.reduceNeg, Int.reduceAdd, Int.reduceSub, Int.reduceMul, ↓reduceIte, Int.reduceBEq, Int.reduceBNe, length_pw, hget_pw0, hget_pw, hset_pw0, hset_pw, hcav]
  rw [← hcav]
  refine oldOf_c r c hC _ hp.app _ fun s2 o i1 k1 n1 junk2 hO => ?_
  rw [pw_app hr]
  have hOo := hO.ok
  clear hO
  obtain ⟨S, pl, ch⟩ := o
  have hcav2 : (.agg [.int .i64 c.features, .list .no 3 (c.models.map Model.av)] : AV) = c.av := rfl
  have hchb : ch < 9223372036854775807 := by have := hOo.changed; simp only at this; omega
  have hch0 := hOo.changed
  simp only at hch0
  simp only [Old.av]
  simp -implicitDefEqProofs (maxSteps := 2000000) (disch := omega) only [go_sem, reduceCtorEq, Nat.reduceAdd, Nat.reduceSub, Nat.reduceMul, Nat.reduceLT, Nat.reduceLeDiff, Nat.reduceEqDiff, Nat.reduceBEq, Int.reduceToNat, Int.reduceLT, Int.reduceLE, Int.reduceEq, Int.reduceNeg, Int.reduceAdd, Int.reduceSub, Int.reduceMul, ↓reduceIte, Int.reduceBEq, Int.reduceBNe, length_pw, hget_pw0, hget_pw, hset_pw0, hset_pw]
  refine odds_c r 1 3 (by omega) (by omega) _ (hp.pw _).app _ fun s4 b => ?_
  rw [pw_pwa hr]
  refine' ARun.cutP (α := ByteArray × Int × List AObj) (fun a => OkO c ⟨S, a.1, a.2.1⟩ ∧ (∀ l, hget (a.2.2 ++ l) σ2.length = some (.cells [.int .i64 c.features, .list .no 3 (c.models.map Model.av)])) ∧ (∀ l, hget (a.2.2 ++ l) (σ2.length + (junk2.length + 1)) = some (.cells [isv S, .str a.1, .int .i64 a.2.1]))) (fun a => [(2, .bool false), (4, .ptr σ2.length 0), (5, .ptr (σ2.length + (junk2.length + 1)) 0), (11, .list .full 0 []), (12, .list .full 0 []), (13, .ptr a.2.2.length 0), (14, .ptr (a.2.2.length + 1) 0), (15, .int .i64 0)])
    (fun a => a.2.2 ++ [.cells [.int .i64 9999, .int .i64 0], .cells [.int .i64 99999, .int .i64 (-1)]]) (fun hG => ?way) ?rest
  case way =>
    cases b
    · simp -implicitDefEqProofs (maxSteps := 2000000) (disch := omega) only [go_sem, reduceCtorEq, Nat.reduceAdd, Nat.reduceSub, Nat.reduceMul, Nat.reduceLT, Nat.reduceLeDiff, Nat.reduceEqDiff, Nat.reduceBEq, Int.reduceToNat, Int.reduceLT, Int.reduceLE, Int.reduceEq, Int.reduceNeg, Int.reduceAdd, Int.reduceSub, Int.reduceMul, ↓reduceIte, Int.reduceBEq, Int.reduceBNe, length_pw, hget_pw0, hget_pw, hset_pw0, hset_pw, Rng.av]
      refine upto_c r ch hchb _ (hp.pw _).app _ fun s5 x hx1 hx2 => ?_
      rw [pw_pwa hr]
      have hx : 0 ≤ x ∧ x ≤ ch := by omega
      have hNo : OkO c ⟨S, pl, x⟩ := ⟨hOo.seen, hOo.plate, hOo.psize, by simp only; omega⟩
      clear hx1 hx2
      simp -implicitDefEqProofs (maxSteps := 2000000) (disch := omega) only [go_sem, reduceCtorEq, Nat.reduceAdd, Nat.reduceSub, Nat.reduceMul, Nat.reduceLT, Nat.reduceLeDiff, Nat.reduceEqDiff, Nat.reduceBEq, Int.reduceToNat, Int.reduceLT, Int.reduceLE, Int.reduceEq, Int.reduceNeg, Int.reduceAdd, Int.reduceSub, Int.reduceMul, ↓reduceIte, Int.reduceBEq, Int.reduceBNe, length_pw, hget_pw0, hget_pw, hset_pw0, hset_pw, Rng.av]
      exact (hG (pl, x, pw σ2 r s5 ++ (.cells [.int .i64 c.features, .list .no 3 (c.models.map Model.av)] :: (junk2 ++ [.cells [isv S, .str pl, .int .i64 x]]))) ⟨hNo, fun l => by rw [List.append_assoc, hget_pw0]; rfl, fun l => by rw [List.append_assoc, hget_pw]; simp⟩).castS (by simp) (by simp [upd, ins, subF, lookA, length_pw]; try omega)
    · simp -implicitDefEqProofs (maxSteps := 2000000) (disch := omega) only [go_sem, reduceCtorEq, Nat.reduceAdd, Nat.reduceSub, Nat.reduceMul, Nat.reduceLT, Nat.reduceLeDiff, Nat.reduceEqDiff, Nat.reduceBEq, Int.reduceToNat, Int.reduceLT, Int.reduceLE, Int.reduceEq, Int.reduceNeg, Int.reduceAdd, Int.reduceSub, Int.reduceMul, ↓reduceIte, Int.reduceBEq, Int.reduceBNe, length_pw, hget_pw0, hget_pw, hset_pw0, hset_pw, hcav]
      rw [hcav2]
      refine oldOf_c r c hC _ (hp.pw _).app _ fun s3 x i2 k2 n2 junk3 hX => ?_
      rw [pw_pwa hr]
      have hXo := hX.ok
      clear hX
      obtain ⟨S', pl', ch'⟩ := x
      simp only [Old.av, List.append_assoc, List.cons_append, List.nil_append]
      simp -implicitDefEqProofs (maxSteps := 2000000) (disch := omega) only [go_sem, reduceCtorEq, Nat.reduceAdd, Nat.reduceSub, Nat.reduceMul, Nat.reduceLT, Nat.reduceLeDiff, Nat.reduceEqDiff, Nat.reduceBEq, Int.reduceToNat, Int.reduceLT, Int.reduceLE, Int.reduceEq, Int.reduceNeg, Int.reduceAdd, Int.reduceSub, Int.reduceMul, ↓reduceIte, Int.reduceBEq, Int.reduceBNe, length_pw, hget_pw0, hget_pw, hset_pw0, hset_pw]
      refine upto_c r ch hchb _ (hp.pw _).app _ fun s5 x hx1 hx2 => ?_
      rw [pw_pwa hr]
      have hx : 0 ≤ x ∧ x ≤ ch := by omega
      have hNo : OkO c ⟨S, pl', x⟩ := ⟨hOo.seen, hXo.plate, hXo.psize, by simp only; omega⟩
      clear hx1 hx2
      simp -implicitDefEqProofs (maxSteps := 2000000) (disch := omega) only [go_sem, reduceCtorEq, Nat.reduceAdd, Nat.reduceSub, Nat.reduceMul, Nat.reduceLT, Nat.reduceLeDiff, Nat.reduceEqDiff, Nat.reduceBEq, Int.reduceToNat, Int.reduceLT, Int.reduceLE, Int.reduceEq, Int.reduceNeg, Int.reduceAdd, Int.reduceSub, Int.reduceMul, ↓reduceIte, Int.reduceBEq, Int.reduceBNe, length_pw, hget_pw0, hget_pw, hset_pw0, hset_pw, Rng.av]
      exact (hG (pl', x, pw σ2 r s5 ++ (.cells [.int .i64 c.features, .list .no 3 (c.models.map Model.av)] :: (junk2 ++ (.cells [isv S, .str pl', .int .i64 x] :: (junk3 ++ [.cells [isv S', .str pl', .int .i64 ch']]))))) ⟨hNo, fun l => by rw [List.append_assoc, hget_pw0]; rfl, fun l => by rw [List.append_assoc, hget_pw]; simp⟩).castS (by simp) (by simp [upd, ins, subF, lookA, length_pw]; try omega)
  case rest =>
  rintro ⟨P, ch', σ3⟩ ⟨hPo, hgc, hgo⟩
  simp only at hPo hgc hgo ⊢
  generalize (σ2.length + (junk2.length + 1)) = q5 at hgo ⊢
  generalize σ2.length = q4 at hgc ⊢
  clear hp hr hOo hchb hch0 hcav2
  clear hl
  have hv := ck_of_okO hC hPo
  have hold := okOld_of hC hPo
  have hfe := hC.features
  have hmods := hC.models
  have hls := hPo.seen.1
  simp only at hls
  refine ARun.ghost 11 1 (sz0 := 0) rfl (by simp [lookA]) ?_
  refine ARun.ghost 12 1 (sz0 := 0) rfl (by simp [lookA, ins]) ?_
  refine ARun.castS (sl' := [(2, AV.bool false), (4, .ptr q4 0), (5, .ptr q5 0), (11, .list (.own (σ3.length + 2)) 1 []), (12, .list (.own (σ3.length + 3)) 1 []), (13, .ptr σ3.length 0), (14, .ptr (σ3.length + 1) 0), (15, .int .i64 0)]) (σ' := σ3 ++ [.cells [.int .i64 9999, .int .i64 0], .cells [.int .i64 99999, .int .i64 (-1)], .tail 0 1, .tail 0 1]) ?_ (by simp) (by simp [subF, lookA, ins])
  have hY0 : allY [] = ⟨9999, 0⟩ := rfl
  have hN0 : allN P [] = ⟨99999, -1⟩ := rfl
  have hF0 : (preM c 0).filter (isTrue ⟨S, P, ch'⟩) = [] := rfl
  have hFi : ∀ i, (preM c i).filter (isTrue ⟨S, P, ch'⟩) = allF S P ch' (preM c i) i (c.models.getD i default) 0 := fun i => by simp [allF]
  have hFs : ∀ i, (preM c (i + 1)).filter (isTrue ⟨S, P, ch'⟩) = allF S P ch' (preM c i) i (c.models.getD i default) (c.models.getD i default).looks.length := fun i => by rw [preM_succ]; rfl
  refine ARun.countA c.models.length (fun i τ => ∃ j, τ = σ3 ++ (.cells [.int .i64 (allY ((preM c i).filter (isTrue ⟨S, P, ch'⟩))).lo, .int .i64 (allY ((preM c i).filter (isTrue ⟨S, P, ch'⟩))).hi] :: .cells [.int .i64 (allN P ((preM c i).filter (isTrue ⟨S, P, ch'⟩))).lo, .int .i64 (allN P ((preM c i).filter (isTrue ⟨S, P, ch'⟩))).hi] :: .tail ((preM c i).filter (isTrue ⟨S, P, ch'⟩)).length 1 :: .tail ((preM c i).filter (isTrue ⟨S, P, ch'⟩)).length 1 :: j)) (fun i => [(11, .list (.own (σ3.length + 2)) 1 ((((preM c i).filter (isTrue ⟨S, P, ch'⟩)).map Made.pair).map isv)), (12, .list (.own (σ3.length + 3)) 1 ((((preM c i).filter (isTrue ⟨S, P, ch'⟩)).map (lkF S.length)).map isv)), (15, .int .i64 i)]) (by simp [upd, ins, subF, lookA, hF0]) ⟨[], by simp only [hF0, hY0, hN0, List.length_nil]⟩ ?_ ?_
  · rintro i τ hi ⟨j, hj⟩ ih
    have hgd : c.models.getD i default = c.models[i] := by simp [List.getD, List.getElem?_eq_getElem hi]
    have hM : OkM c.features (c.models.getD i default) := by rw [hgd]; exact hC.model _ (List.getElem_mem hi)
    have hid : idx (c.models.map Model.av) (i : Int) = some (c.models.getD i default).av := by rw [hgd]; exact idx_nat hi
    have hBl : (preM c i).length ≤ 16 := by have := preM_len hC i (by omega); omega
    have hfi := hFi i
    have hfs := hFs i
    obtain ⟨M, hMe⟩ : ∃ M, c.models.getD i default = M := ⟨_, rfl⟩
    obtain ⟨B, hBe⟩ : ∃ B, preM c i = B := ⟨_, rfl⟩
    rw [hMe] at hM hid
    rw [hMe, hBe] at hfi hfs
    rw [hBe] at hBl hj
    rw [hfi] at hj
    have hmav : M.av = .agg [.int .i64 M.first, .list .no 1 (M.looks.map isv), .list .no 2 (M.nums.map Rng.av)] := rfl
    refine ARun.castS (sl' := [(2, AV.bool false), (4, .ptr q4 0), (5, .ptr q5 0), (11, .list (.own (σ3.length + 2)) 1 (((allF S P ch' B i M 0).map Made.pair).map isv)), (12, .list (.own (σ3.length + 3)) 1 (((allF S P ch' B i M 0).map (lkF S.length)).map isv)), (13, .ptr σ3.length 0), (14, .ptr (σ3.length + 1) 0), (15, .int .i64 (i : Int))]) (σ' := σ3 ++ (.cells [.int .i64 (allY (allF S P ch' B i M 0)).lo, .int .i64 (allY (allF S P ch' B i M 0)).hi] :: .cells [.int .i64 (allN P (allF S P ch' B i M 0)).lo, .int .i64 (allN P (allF S P ch' B i M 0)).hi] :: .tail (allF S P ch' B i M 0).length 1 :: .tail (allF S P ch' B i M 0).length 1 :: j)) ?_ hj.symm (by simp only [upd, ins, subF, lookA, hBe, hfi, Nat.reduceEqDiff, ↓reduceIte, eq_self, and_self, true_and])
    refine ev_sound (Tryd.envOKV 398 Tryd.ordP fs60 fs60_ok) (n := 1000) (by kernel_rfl) ?_
    clear hFs hFi hF0 hgd hY0 hN0
    simp -implicitDefEqProofs (maxSteps := 2000000) (disch := omega) only [go_sem, reduceCtorEq, Nat.reduceAdd, Nat.reduceSub, Nat.reduceMul, Nat.reduceLT, Nat.reduceLeDiff, Nat.reduceEqDiff, Nat.reduceBEq, Int.reduceToNat, Int.reduceLT, Int.reduceLE, Int.reduceEq, Int.reduceNeg, Int.reduceAdd, Int.reduceSub, Int.reduceMul, ↓reduceIte, Int.reduceBEq, Int.reduceBNe, hgc, hgo, hid, hmav]
    refine ARun.castS (sl' := [(2, AV.bool false), (4, .ptr q4 0), (5, .ptr q5 0), (11, .list (.own (σ3.length + 2)) 1 (((allF S P ch' B i M 0).map Made.pair).map isv)), (12, .list (.own (σ3.length + 3)) 1 (((allF S P ch' B i M 0).map (lkF S.length)).map isv)), (13, .ptr σ3.length 0), (14, .ptr (σ3.length + 1) 0), (15, .int .i64 (i : Int)), (16, .ptr (σ3.length + (j.length + 4)) 0), (17, .int .i64 0)]) ?_ rfl (by simp only [subF, lookA, Nat.reduceEqDiff, ↓reduceIte, eq_self, and_self, true_and, and_true])
    refine ARun.forG (Tryd.envOKV 398 Tryd.ordP fs60 fs60_ok) M.looks.length (fun _ => True) (fun k => [(11, .list (.own (σ3.length + 2)) 1 (((allF S P ch' B i M k).map Made.pair).map isv)), (12, .list (.own (σ3.length + 3)) 1 (((allF S P ch' B i M k).map (lkF S.length)).map isv)), (17, .int .i64 (k : Int))]) (fun k j2 => σ3 ++ (.cells [.int .i64 (allY (allF S P ch' B i M k)).lo, .int .i64 (allY (allF S P ch' B i M k)).hi] :: .cells [.int .i64 (allN P (allF S P ch' B i M k)).lo, .int .i64 (allN P (allF S P ch' B i M k)).hi] :: .tail (allF S P ch' B i M k).length 1 :: .tail (allF S P ch' B i M k).length 1 :: (j ++ (.cells [.int .i64 M.first, .list .no 1 (M.looks.map isv), .list .no 2 (M.nums.map Rng.av)] :: j2)))) [] (by kernel_rfl) (by kernel_rfl) (by simp) (by simp [upd, ins, subF, lookA]) trivial ?_ ?_
    · have key := fun mm => allK_round (c := c) (σ := σ3) (j := j) (S := S) (P := P) (ch := ch') (a := q4) (b := q5) (mm := mm) (i := i) (B := B) (M := M) hC hPo hM hBl hgc hgo
      obtain ⟨x, hx⟩ : ∃ x, (loopAt Tryd.f7 15) = x := ⟨_, rfl⟩
      rw [hx] at key
      conv at hx => lhs; whnf
      subst hx
      exact fun K2 Q2 hK2 k j2 hk _ ih2 => key _ (fun x1 x2 x3 x4 l => hget_5) K2 Q2 hK2 k j2 hk (fun j' => ih2 trivial j')
    · intro j2 _
      simp -implicitDefEqProofs (maxSteps := 2000000) (disch := omega) only [go_sem, reduceCtorEq, Nat.reduceAdd, Nat.reduceSub, Nat.reduceMul, Nat.reduceLT, Nat.reduceLeDiff, Nat.reduceEqDiff, Nat.reduceBEq, Int.reduceToNat, Int.reduceLT, Int.reduceLE, Int.reduceEq, Int.reduceNeg, Int.reduceAdd, Int.reduceSub, Int.reduceMul, ↓reduceIte, Int.reduceBEq, Int.reduceBNe]
      exact (ih _ ⟨j ++ (.cells [.int .i64 M.first, .list .no 1 (M.looks.map isv), .list .no 2 (M.nums.map Rng.av)] :: j2), rfl⟩).castS (by simp only [hfs]) (by simp only [upd, ins, subF, lookA, hfs, Int.natCast_add, Int.natCast_one, Int.cast_ofNat_Int, Nat.reduceEqDiff, ↓reduceIte, eq_self, and_self, true_and])
  · rintro τ ⟨j, hτ⟩
    have hFT : (preM c c.models.length).filter (isTrue ⟨S, P, ch'⟩) = truthsM c ⟨S, P, ch'⟩ := rfl
    rw [hFT] at hτ
    have hTl := truthsM_len (o := ⟨S, P, ch'⟩) hC
    have hse := fun h => some_said hC hPo hv h
    have hno := fun h => none_said hv h hfe.1
    simp only at hse
    obtain ⟨L, hLe⟩ : ∃ L, truthsM c ⟨S, P, ch'⟩ = L := ⟨_, rfl⟩
    rw [hLe] at hFT hτ hTl hse hno
    have hgc' : ∀ l, hget (τ ++ l) q4 = some (.cells [.int .i64 c.features, .list .no 3 (c.models.map Model.av)]) := fun l => by rw [hτ, List.append_assoc]; exact hgc _
    have hgo' : ∀ l, hget (τ ++ l) q5 = some (.cells [isv S, .str P, .int .i64 ch']) := fun l => by rw [hτ, List.append_assoc]; exact hgo _
    have hgy' : ∀ l, hget (τ ++ l) σ3.length = some (.cells [.int .i64 (allY L).lo, .int .i64 (allY L).hi]) := fun l => by rw [hτ, List.append_assoc, hget_at0]; rfl
    have hgn' : ∀ l, hget (τ ++ l) (σ3.length + 1) = some (.cells [.int .i64 (allN P L).lo, .int .i64 (allN P L).hi]) := fun l => by rw [hτ, List.append_assoc, hget_at]; rfl
    obtain ⟨q3, hq3⟩ : ∃ q3, σ3.length = q3 := ⟨_, rfl⟩
    rw [hq3] at hgy' hgn'
    refine ARun.castS (sl' := [(2, AV.bool false), (4, .ptr q4 0), (5, .ptr q5 0), (11, .list (.own (q3 + 2)) 1 ((L.map Made.pair).map isv)), (12, .list (.own (q3 + 3)) 1 ((L.map (lkF S.length)).map isv)), (13, .ptr q3 0), (14, .ptr (q3 + 1) 0), (15, .int .i64 (c.models.length : Int))]) (σ' := τ) ?_ rfl (by simp only [upd, ins, subF, lookA, hFT, hq3, Nat.reduceEqDiff, ↓reduceIte, eq_self, and_self, true_and])
    refine ev_sound (Tryd.envOKV 398 Tryd.ordP fs60 fs60_ok) (n := 1000) (by kernel_rfl) ?_
    have hgc0 := hgc' []
    have hgo0 := hgo' []
    have hgy0 := hgy' []
    have hgn0 := hgn' []
    rw [List.append_nil] at hgc0 hgo0 hgy0 hgn0
    clear hτ hgc hgo hFs hFi hF0 hY0 hN0 hFT hLe
    have hf0 : -4294967296 ≤ c.features := by omega
    have hf1 : c.features ≤ 4294967296 := by omega
    have hl1 : (L.map Made.pair).length = L.length := List.length_map _
    have hl2 : ((L.map Made.pair).map isv).length = L.length := by simp
    have hl3 : (∀ t ∈ L.map Made.pair, t.length ≤ 4294967296) = True := eq_true fun t ht => by obtain ⟨m, _, rfl⟩ := List.mem_map.1 ht; simp [Made.pair]
    by_cases hL : L = []
    · obtain ⟨f1, f2, f3, f4, f5⟩ := hno hL
      subst hL
      clear hse hno
      simp -implicitDefEqProofs (maxSteps := 2000000) (disch := omega) only [go_sem, reduceCtorEq, Nat.reduceAdd, Nat.reduceSub, Nat.reduceMul, Nat.reduceLT, Nat.reduceLeDiff, Nat.reduceEqDiff, Nat.reduceBEq, Int.reduceToNat, Int.reduceLT, Int.reduceLE, Int.reduceEq, Int.reduceNeg, Int.reduceAdd, Int.reduceSub, Int.reduceMul, ↓reduceIte, Int.reduceBEq, Int.reduceBNe, hgc', hgo', hgy', hgn', hgc0, hgo0, hgy0, hgn0, Cat_eta, Old_eta, hcat, hold, f1, f2, f3, f4, f5, isv, Rng.av]
    · obtain ⟨f1, f2, f3, f4, f5⟩ := hse hL
      clear hse hno
      have hz : 0 < L.length := List.length_pos_iff.2 hL
      have hAl : (altP S L S.length).length = S.length := by simp [altP]
      have hAt : ∀ f : Nat, f < S.length → tg (altP S L S.length) f = vdN (altN (tg S f) f L) L.length := fun f hf => by
        rw [tgE (by omega)]; simp [altP]
      obtain ⟨A, hA⟩ : ∃ A, altP S L S.length = A := ⟨_, rfl⟩
      rw [hA] at f4 hAl hAt
      simp -implicitDefEqProofs (maxSteps := 2000000) (disch := omega) only [go_sem, reduceCtorEq, Nat.reduceAdd, Nat.reduceSub, Nat.reduceMul, Nat.reduceLT, Nat.reduceLeDiff, Nat.reduceEqDiff, Nat.reduceBEq, Int.reduceToNat, Int.reduceLT, Int.reduceLE, Int.reduceEq, Int.reduceNeg, Int.reduceAdd, Int.reduceSub, Int.reduceMul, ↓reduceIte, Int.reduceBEq, Int.reduceBNe, hgc', hgo', hgy', hgn', hgc0, hgo0, hgy0, hgn0, Cat_eta, Old_eta, hcat, hold, f1, f2, f3, f4, hl1, hl2, hl3, isv, Rng.av]
      refine ARun.castS (sl' := [(2, AV.bool false), (4, .ptr q4 0), (5, .ptr q5 0), (12, .list (.own (q3 + 3)) 1 ((L.map (lkF S.length)).map isv)), (29, .list .no 1 (A.map (.int .i64))), (33, .int .i64 0)]) ?_ rfl (by simp [upd, ins, subF, lookA])
      refine ARun.forG (Tryd.envOKV 398 Tryd.ordP fs60 fs60_ok) S.length (fun _ => True) (fun i => [(33, .int .i64 (i : Int))]) (fun _ l => τ ++ l) _ (by kernel_rfl) (by kernel_rfl) rfl (by simp [upd, ins, subF, lookA]) trivial ?_ ?_
      · have key := allA_round (c := c) (τ := τ) (S := S) (P := P) (ch := ch') (a := q4) (b := q5) (L := L) (A := A) (t1 := .own (q3 + 3)) hC hPo hTl hAl hAt f5 hgc' hgo'
        obtain ⟨x, hx⟩ : ∃ x, (loopAt Tryd.f7 43) = x := ⟨_, rfl⟩
        rw [hx] at key
        conv at hx => lhs; whnf
        subst hx
        exact fun K Q' hK i j hi _ ih => key K Q' hK i j hi (fun j' => ih trivial j')
      · intro j _
        simp -implicitDefEqProofs (maxSteps := 2000000) (disch := omega) only [go_sem, reduceCtorEq, Nat.reduceAdd, Nat.reduceSub, Nat.reduceMul, Nat.reduceLT, Nat.reduceLeDiff, Nat.reduceEqDiff, Nat.reduceBEq, Int.reduceToNat, Int.reduceLT, Int.reduceLE, Int.reduceEq, Int.reduceNeg, Int.reduceAdd, Int.reduceSub, Int.reduceMul, ↓reduceIte, Int.reduceBEq, Int.reduceBNe, hgc', hgo']
end Go.Proofs
