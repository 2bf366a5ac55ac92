/- Texts of a proof: lemmas. -/
import Derived.Test.YthejgnlikaiddaaDoorPZB
set_option linter.unusedSimpArgs false
set_option linter.unusedVariables false
set_option maxRecDepth 100000
namespace Go.Proofs
open Go Go.Mu

set_option maxHeartbeats 400000000 in
theorem plateTrue_c (nums : List Int) (hl : nums.length ≤ 4294967296) (σ : List AObj) : ACalls Tryd.prog 8 [.list .no 1 (nums.map (.int .i64))] σ (fun v _ => v = .bool true) := by
  refine ACalls.of_ev (E := Tryd.E 248 Tryd.ord8 fs21) (Tryd.envOK 248 Tryd.ord8 fs21 fs21_ok) Tryd.kp8 Tryd.func8 rfl (by kernel_rfl) (by simp [Tryd.E]) (Callable.of Tryd.func8 (by kernel_rfl) (by kernel_rfl)) (by kernel_rfl) ?_
  simp -implicitDefEqProofs (maxSteps := 2000000) (disch := omega) only [go_sem, reduceCtorEq, Nat.reduceAdd, Nat.reduceSub, Nat.reduceMul, Nat.reduceLT, Nat.reduceLeDiff, Nat.reduceEqDiff, Nat.reduceBEq, Int.reduceToNat, Int.reduceLT, Int.reduceLE, Int.reduceEq, Int.reduceNeg, Int.reduceAdd, Int.reduceSub, Int.reduceMul, ↓reduceIte, Int.reduceBEq, Int.reduceBNe]
  refine newPot_c nums .no hl _ _ fun s0 junk0 => ?_
  have hp : PotAt (σ ++ (.cells [.int .u64 s0] :: junk0)) σ.length := ⟨s0, by rw [hget_at0]; rfl⟩
  generalize σ ++ (.cells [.int .u64 s0] :: junk0) = σ1 at hp ⊢
  generalize σ.length = r at hp ⊢
  simp -implicitDefEqProofs (maxSteps := 2000000) (disch := omega) only [go_sem, reduceCtorEq, Nat.reduceAdd, Nat.reduceSub, Nat.reduceMul, Nat.reduceLT, Nat.reduceLeDiff, Nat.reduceEqDiff, Nat.reduceBEq, Int.reduceToNat, Int.reduceLT, Int.reduceLE, Int.reduceEq, Int.reduceNeg, Int.reduceAdd, Int.reduceSub, Int.reduceMul, ↓reduceIte, Int.reduceBEq, Int.reduceBNe]
  refine catalogueOf_c r 4 4 (by omega) (by omega) _ hp _ fun s1 c junk1 hC _ _ => ?_
  replace hp : PotAt (pw σ1 r s1 ++ junk1) r := (hp.pw s1).app
  generalize pw σ1 r s1 ++ junk1 = σ2 at hp ⊢
  clear junk0 junk1
  have hr := hp.lt
  have hcat := okCat_of hC
  have hcav : c.av = .agg [.int .i64 c.features, .list .no 3 (c.models.map Model.av)] := rfl
  simp -implicitDefEqProofs (maxSteps := 2000000) (disch := omega) only [go_sem, reduceCtorEq, Nat.reduceAdd, Nat.reduceSub, Nat.reduceMul, Nat.reduceLT, Nat.reduceLeDiff, Nat.reduceEqDiff, Nat.reduceBEq, Int.reduceToNat, Int.reduceLT, Int.reduceLE, Int.reduceEq, Int.reduceNeg, Int.reduceAdd, Int.reduceSub, Int.reduceMul, ↓reduceIte, Int.reduceBEq, Int.reduceBNe, length_pw, hget_pw0, hget_pw, hset_pw0, hset_pw, hcav]
  rw [← hcav]
  refine oldOf_c r c hC _ hp.app _ fun s2 o i k n1 junk2 hO => ?_
  rw [pw_app hr]
  obtain ⟨σ3, e3⟩ : ∃ σ3, σ3 = pw σ2 r s2 ++ [.cells [.int .i64 c.features, .list .no 3 (c.models.map Model.av)]] ++ junk2 := ⟨_, rfl⟩
  rw [← e3]
  have hgc0 : hget σ3 σ2.length = some (.cells [.int .i64 c.features, .list .no 3 (c.models.map Model.av)]) := by rw [e3, List.append_assoc, hget_pw0]; rfl
  have hgl : σ2.length < σ3.length := hget_lt hgc0
  clear e3 hr hp
  have hgcl : ∀ l, hget (σ3 ++ l) σ2.length = some (.cells [.int .i64 c.features, .list .no 3 (c.models.map Model.av)]) := fun l => by rw [hget_app hgl]; exact hgc0
  generalize σ2.length = a at hgcl hgc0 hgl ⊢
  have hOo := hO.ok
  have htr := truth_mem hC hO
  have hi := hO.hi
  have hk := hO.hk
  have hch := hO.ch
  obtain ⟨S, P, ch⟩ := o
  have hM := hC.model _ (List.getElem_mem hi)
  have hgd : c.models.getD i default = c.models[i] := by simp [List.getD, List.getElem?_eq_getElem hi]
  have hid : idx (c.models.map Model.av) (i : Int) = some (c.models[i]).av := idx_nat hi
  have hmav : (c.models[i]).av = .agg [.int .i64 (c.models[i]).first, .list .no 1 ((c.models[i]).looks.map isv), .list .no 2 ((c.models[i]).nums.map Rng.av)] := rfl
  rw [hgd] at hk htr hch
  rw [hgd]
  clear hgd hO
  have hcm := hC.models
  have hfe := hC.features
  generalize c.models[i] = M at hM hid hmav hk htr hch ⊢
  have hlk := hM.looks
  have hfi := hM.first
  have hk2 : k < M.nums.length := by have := hM.nums; omega
  have hkk : M.first + (k : Int) - M.first = k := by omega
  have hkd : idx (M.looks.map isv) (M.first + (k : Int) - M.first) = some (isv M.looks[k]) := by rw [hkk]; exact idx_nat hk
  have hkn : idx (M.nums.map Rng.av) (M.first + (k : Int) - M.first) = some (M.nums[k]).av := by rw [hkk]; exact idx_nat hk2
  have hll := hM.look _ (List.getElem_mem hk)
  have hnn := hM.num _ (List.getElem_mem hk2)
  have hg1 : M.looks.getD k [] = M.looks[k] := by simp [List.getD, List.getElem?_eq_getElem hk]
  have hg2 : M.nums.getD k default = M.nums[k] := by simp [List.getD, List.getElem?_eq_getElem hk2]
  obtain ⟨t, ht⟩ : ∃ t, t = madeOf i M k := ⟨_, rfl⟩
  have htm : t.model = i ∧ t.year = M.first + k ∧ t.nums = M.nums[k] ∧ t.look = [tg M.looks[k] 0, tg M.looks[k] 1, tg M.looks[k] 2, tg M.looks[k] 3] := by
    rw [ht]; unfold madeOf Made.look; simp only [hg1, hg2]; exact ⟨trivial, trivial, trivial, trivial⟩
  rw [← ht] at htr
  rw [hg1] at hch
  clear ht hg1 hg2
  generalize M.looks[k] = l at hkd hll htm hch
  generalize M.nums[k] = x at hkn hnn htm
  obtain ⟨ht1, ht2, ht3, ht4⟩ := htm
  have hso := hOo.seen
  simp only at hso hch
  have hS4 := seen_len hC hOo
  simp only at hS4
  have hlS : l.length = S.length := by have := hll.1; omega
  -- what is found
  have hv := ck_of_okO hC hOo
  have hko := okOld_of hC hOo
  have hne : truthsM c ⟨S, P, ch⟩ ≠ [] := List.ne_nil_of_mem htr
  have hlen := truthsM_len (o := ⟨S, P, ch⟩) hC
  have hkv := known_val hv hne
  have qf : fitsM c ⟨S, P, ch⟩ = ((truthsM c ⟨S, P, ch⟩).map Made.pair, 0) := by rw [fitsM_val hv, if_neg hne]
  have qm : modelsM c ⟨S, P, ch⟩ = (valuesZ Made.model (truthsM c ⟨S, P, ch⟩), 0) := by unfold modelsM; rw [hkv, if_pos rfl]
  have qy : yearsM c ⟨S, P, ch⟩ = (⟨tg (valuesZ Made.year (truthsM c ⟨S, P, ch⟩)) 0, tg (valuesZ Made.year (truthsM c ⟨S, P, ch⟩)) ((valuesZ Made.year (truthsM c ⟨S, P, ch⟩)).length - 1)⟩, 0) := by unfold yearsM; rw [hkv, if_pos rfl]
  have qa : alteredM c ⟨S, P, ch⟩ = (altP S (truthsM c ⟨S, P, ch⟩) S.length, 0) := by unfold alteredM; rw [hkv, if_pos rfl]
  have qn : numbersM c ⟨S, P, ch⟩ = ((truthsM c ⟨S, P, ch⟩).foldl (numF P) ⟨10000, -1⟩, 0) := by unfold numbersM; rw [hkv, if_pos rfl]
  have qk : ∀ f : Int, 0 ≤ f ∧ f ≤ c.features - 1 → knownFM c ⟨S, P, ch⟩ f = (valuesZ (fun m : Made => tg m.look f) (truthsM c ⟨S, P, ch⟩), 0) := fun f hf => knownF_val hv hne hf
  have h4 : t ∈ truthsM c ⟨S, P, 4⟩ := truths_mono (c := c) (o := ⟨S, P, ch⟩) (o' := ⟨S, P, 4⟩) (fun m _ h => by have := hOo.changed; simp only at this h ⊢; omega) (fun n h => h) t htr
  have hb4 : t ∈ truthsM c ⟨S, { data := #[] }, ch⟩ := truths_mono (c := c) (o := ⟨S, P, ch⟩) (o' := ⟨S, { data := #[] }, ch⟩) (fun _ _ h => h) (fun n _ => reads_empty rfl) t htr
  have ql : ∃ n : Int, leastM c ⟨S, P, ch⟩ = (n, 0) ∧ n ≤ n1 := by
    have e := leastM_val hv
    have ea : (Old.all4 ⟨S, P, ch⟩) = ⟨S, P, 4⟩ := rfl
    rw [ea, if_neg (List.ne_nil_of_mem h4)] at e
    refine ⟨_, e, ?_⟩
    have := (leastL_spec (num := fun m : Made => (changedN m.look S : Int)) (List.ne_nil_of_mem h4)).2.2 t h4
    simp only at this ⊢
    rw [ht4, changed_pad hS4, hch] at this
    exact this
  obtain ⟨n, ql, hnl⟩ := ql
  obtain ⟨b0, hq0, fb, fe, qfo, hb0⟩ : ∃ (b0 : Bool), (P.toList == ({ data := #[] } : ByteArray).toList) = b0 ∧ ∃ (fb : Bool) (fe : Int), forgedM c ⟨S, P, ch⟩ = (fb, fe) ∧ (b0 = true ∧ fe = 11 ∨ b0 = false ∧ fe = 0 ∧ fb = false) := by
    by_cases hz : P.size = 0
    · exact ⟨true, by rw [beq_iff_eq, str_nil]; exact hz, false, 11, forgedM_none hv hz, .inl ⟨rfl, rfl⟩⟩
    · refine ⟨false, by rw [Bool.eq_false_iff, ne_eq, beq_iff_eq, str_nil]; exact hz, false, 0, ?_, .inr ⟨rfl, rfl, rfl⟩⟩
      have e := forgedM_val hv hz
      have ea : (Old.bare ⟨S, P, ch⟩) = ⟨S, { data := #[] }, ch⟩ := rfl
      rw [ea, if_neg (List.ne_nil_of_mem hb4), decide_eq_false hne] at e
      exact e
  clear h4 hb4 hkv
  have hmem : [(i : Int), M.first + k] ∈ (truthsM c ⟨S, P, ch⟩).map Made.pair := List.mem_map.2 ⟨t, htr, by unfold Made.pair; rw [ht1, ht2]⟩
  have hfl : ((truthsM c ⟨S, P, ch⟩).map Made.pair).length ≤ 4294967296 := by rw [List.length_map]; omega
  have hft : (∀ y ∈ (truthsM c ⟨S, P, ch⟩).map Made.pair, y.length ≤ 4294967296) = True := eq_true fun y hy => by
    obtain ⟨m, hm, rfl⟩ := List.mem_map.1 hy; simp [Made.pair]
  have hmo := valuesZ_mem.2 ⟨t, htr, ht1⟩
  have hml := Nat.le_trans (valuesZ_len (num := Made.model) (l := truthsM c ⟨S, P, ch⟩)) hlen
  have hpl : placeL (valuesZ Made.model (truthsM c ⟨S, P, ch⟩)) i = ((valuesZ Made.model (truthsM c ⟨S, P, ch⟩)).idxOf (i : Int) : Int) := by unfold placeL; rw [if_pos hmo]
  have hyy := head_le valuesZ_lt (valuesZ_mem.2 ⟨t, htr, ht2⟩)
  have hnF : ∃ q, x.lo ≤ q ∧ q ≤ x.hi ∧ ((truthsM c ⟨S, P, ch⟩).foldl (numF P) ⟨10000, -1⟩).lo ≤ q ∧ q ≤ ((truthsM c ⟨S, P, ch⟩).foldl (numF P) ⟨10000, -1⟩).hi := by
    have hfit := (isTrue_iff.1 (mem_truths.1 htr).2).2
    simp only at hfit
    rw [ht3] at hfit
    obtain ⟨q, hq⟩ := fitsP_iff.1 hfit
    have h1 := numsP_mem.1 hq
    have h2 := (numF_fold (pl := P) (l := truthsM c ⟨S, P, ch⟩) (x := ⟨10000, -1⟩)).2.2 t htr q (by rw [ht3]; exact hq)
    exact ⟨q, h1.1, h1.2.1, h2.1, h2.2⟩
  have hAl : (altP S (truthsM c ⟨S, P, ch⟩) S.length).length = S.length := by simp [altP]
  have hround : ∀ f : Nat, f < S.length → ∃ (kb : List Int) (pb va : Int), knownFM c ⟨S, P, ch⟩ f = (kb, 0) ∧ kb.length ≤ 4294967296 ∧ placeL kb (tg l (f : Int)) = pb ∧ 0 ≤ pb ∧ idx ((altP S (truthsM c ⟨S, P, ch⟩) S.length).map (AV.int .i64)) (f : Int) = some (.int .i64 va) ∧ rightB va (decide (tg S (f : Int) ≠ 0) && decide (tg S (f : Int) ≠ tg l (f : Int))) = true := fun f hf => by
    have hmk : tg t.look (f : Int) = tg l (f : Int) := by rw [ht4, tg_pad (by omega)]
    have hmv := (valuesZ_mem (num := fun m : Made => tg m.look (f : Int)) (l := truthsM c ⟨S, P, ch⟩)).2 ⟨t, htr, hmk⟩
    have hvl := Nat.le_trans (valuesZ_len (num := fun m : Made => tg m.look (f : Int)) (l := truthsM c ⟨S, P, ch⟩)) hlen
    refine ⟨_, _, vdN (altN (tg S (f : Int)) f (truthsM c ⟨S, P, ch⟩)) (truthsM c ⟨S, P, ch⟩).length, qk f (by omega), by omega, by unfold placeL; rw [if_pos hmv], by omega, ?_, ?_⟩
    · rw [idx_nat (by omega)]; simp [altP]
    · have hsb := hso.2 _ (List.getElem_mem hf)
      have hsg : tg S (f : Int) = S[f] := tgE hf
      unfold vdN
      split
      · rename_i h
        have := altN_all h t htr
        rw [hmk] at this
        have h1 : tg S (f : Int) ≠ 0 := by omega
        simp [rightB, h1, this.2]
      · split
        · rename_i h
          have := altN_none h t htr
          rw [hmk] at this
          by_cases h1 : tg S (f : Int) = 0
          · simp [rightB, h1]
          · have h2 : tg S (f : Int) = tg l (f : Int) := Classical.byContradiction fun e => this ⟨by omega, e⟩
            simp [rightB, h2]
        · simp [rightB]
  clear hlen hv hne htr hmo qk hch ht1 ht2 ht3 ht4
  generalize altP S (truthsM c ⟨S, P, ch⟩) S.length = V at *
  generalize (truthsM c ⟨S, P, ch⟩).map Made.pair = B at *
  generalize (truthsM c ⟨S, P, ch⟩).foldl (numF P) ⟨10000, -1⟩ = nr at *
  obtain ⟨nlo, nhi⟩ := nr
  obtain ⟨q, hq1, hq2, hq3, hq4⟩ := hnF
  simp only at hq3 hq4
  generalize (valuesZ Made.model (truthsM c ⟨S, P, ch⟩)).idxOf (i : Int) = pm at *
  generalize valuesZ Made.model (truthsM c ⟨S, P, ch⟩) = vm at *
  generalize tg (valuesZ Made.year (truthsM c ⟨S, P, ch⟩)) 0 = y0 at *
  generalize tg (valuesZ Made.year (truthsM c ⟨S, P, ch⟩)) ((valuesZ Made.year (truthsM c ⟨S, P, ch⟩)).length - 1) = y1 at *
  obtain ⟨xlo, xhi⟩ := x
  simp only at hq1 hq2 hnn
  have hisl : ∀ l : List (List Int), l.map isv = l.map (fun l => .list .no 1 (l.map (.int .i64))) := fun _ => rfl
  have hi1 : ∀ u v : AV, idx [u, v] 1 = some v := fun _ _ => rfl
  have hvl : vm.length ≤ 4294967296 := by omega
  have hfs : c.features = S.length := hso.1.symm
  have hisV : isv V = .list .no 1 (V.map (.int .i64)) := rfl
  simp only [Old.av, isv]
  simp only [isv] at hid hmav hkd
  simp -implicitDefEqProofs (maxSteps := 2000000) (disch := omega) only [go_sem, reduceCtorEq, Nat.reduceAdd, Nat.reduceSub, Nat.reduceMul, Nat.reduceLT, Nat.reduceLeDiff, Nat.reduceEqDiff, Nat.reduceBEq, Int.reduceToNat, Int.reduceLT, Int.reduceLE, Int.reduceEq, Int.reduceNeg, Int.reduceAdd, Int.reduceSub, Int.reduceMul, ↓reduceIte, Int.reduceBEq, Int.reduceBNe, length_pw, hget_pw0, hget_pw, hset_pw0, hset_pw, hid, hmav, idx_zero, hgcl, hgc0, hkd, hkn, hi1, List.append_eq, Rng.av, Cat_eta, Old_eta, hcat, hko, qf, qm, qy, qa, ql, qn, qfo, hmem, hfl, hft, hpl, hvl, hAl, hq0, hisV]
  refine (?f : ?G → _) ?g
  case f =>
    intro hG
    rcases hb0 with ⟨rfl, h1⟩ | ⟨rfl, h1, rfl⟩
    all_goals
      simp -implicitDefEqProofs (maxSteps := 2000000) (disch := omega) only [go_sem, reduceCtorEq, Nat.reduceAdd, Nat.reduceSub, Nat.reduceMul, Nat.reduceLT, Nat.reduceLeDiff, Nat.reduceEqDiff, Nat.reduceBEq, Int.reduceToNat, Int.reduceLT, Int.reduceLE, Int.reduceEq, Int.reduceNeg, Int.reduceAdd, Int.reduceSub, Int.reduceMul, ↓reduceIte, Int.reduceBEq, Int.reduceBNe, length_pw, hget_pw0, hget_pw, hset_pw0, hset_pw, hgcl, hgc0, hq0]
      exact hG
  refine ARun.forG (Tryd.envOK 248 Tryd.ord8 fs21 fs21_ok) S.length (fun _ => True) (fun f => [(25, .int .i64 f)]) (fun _ j => σ3 ++ (.cells [.list .no 1 (S.map (.int .i64)), .str P, .int .i64 ch] :: .cells [.int .i64 M.first, .list .no 1 (M.looks.map (fun l => .list .no 1 (l.map (.int .i64)))), .list .no 2 (M.nums.map Rng.av)] :: .cells [.int .i64 xlo, .int .i64 xhi] :: .cells [.int .i64 y0, .int .i64 y1] :: .cells [.int .i64 nlo, .int .i64 nhi] :: j)) [] (by kernel_rfl) (by kernel_rfl) rfl (by simp [upd, ins, subF, lookA]) trivial ?_ ?_
  · intro K Q' hK f j hf _ ih
    obtain ⟨kb, pb, va, r1, r2, r3, r4, r5, r6⟩ := hround f hf
    have hlf : idx (l.map (AV.int .i64)) (f : Int) = some (.int .i64 (tg l f)) := by rw [idx_nat (by omega), tgE (by omega)]
    have hSf : idx (S.map (AV.int .i64)) (f : Int) = some (.int .i64 (tg S f)) := by rw [idx_nat hf, tgE hf]
    clear hround hso hll
    generalize tg l (f : Int) = y at r3 r6 hlf
    generalize tg S (f : Int) = z at r6 hSf
    refine (?f2 : ?G2 → _) ?g2
    case f2 =>
      intro hG
      by_cases h1 : z = 0
      · have r7 : rightB va false = true := by simpa [h1] using r6
        simp -implicitDefEqProofs (maxSteps := 2000000) (disch := omega) only [go_sem, reduceCtorEq, Nat.reduceAdd, Nat.reduceSub, Nat.reduceMul, Nat.reduceLT, Nat.reduceLeDiff, Nat.reduceEqDiff, Nat.reduceBEq, Int.reduceToNat, Int.reduceLT, Int.reduceLE, Int.reduceEq, Int.reduceNeg, Int.reduceAdd, Int.reduceSub, Int.reduceMul, ↓reduceIte, Int.reduceBEq, Int.reduceBNe, length_pw, hget_pw0, hget_pw, hset_pw0, hset_pw, hgcl, hgc0, Cat_eta, Old_eta, hcat, hko, r1, r2, r3, r5, r7, hlf, hSf]
        exact hG
      · by_cases h2 : z = y
        · have r7 : rightB va false = true := by simpa [h2] using r6
          simp -implicitDefEqProofs (maxSteps := 2000000) (disch := omega) only [go_sem, reduceCtorEq, Nat.reduceAdd, Nat.reduceSub, Nat.reduceMul, Nat.reduceLT, Nat.reduceLeDiff, Nat.reduceEqDiff, Nat.reduceBEq, Int.reduceToNat, Int.reduceLT, Int.reduceLE, Int.reduceEq, Int.reduceNeg, Int.reduceAdd, Int.reduceSub, Int.reduceMul, ↓reduceIte, Int.reduceBEq, Int.reduceBNe, length_pw, hget_pw0, hget_pw, hset_pw0, hset_pw, hgcl, hgc0, Cat_eta, Old_eta, hcat, hko, r1, r2, r3, r5, r7, hlf, hSf]
          exact hG
        · have r7 : rightB va true = true := by simpa [h1, h2] using r6
          simp -implicitDefEqProofs (maxSteps := 2000000) (disch := omega) only [go_sem, reduceCtorEq, Nat.reduceAdd, Nat.reduceSub, Nat.reduceMul, Nat.reduceLT, Nat.reduceLeDiff, Nat.reduceEqDiff, Nat.reduceBEq, Int.reduceToNat, Int.reduceLT, Int.reduceLE, Int.reduceEq, Int.reduceNeg, Int.reduceAdd, Int.reduceSub, Int.reduceMul, ↓reduceIte, Int.reduceBEq, Int.reduceBNe, length_pw, hget_pw0, hget_pw, hset_pw0, hset_pw, hgcl, hgc0, Cat_eta, Old_eta, hcat, hko, r1, r2, r3, r5, r7, hlf, hSf]
          exact hG
    exact (ih trivial j).castS rfl (by simp [upd, ins, subF, lookA])
  · intro j _
    simp -implicitDefEqProofs (maxSteps := 2000000) (disch := omega) only [go_sem, reduceCtorEq, Nat.reduceAdd, Nat.reduceSub, Nat.reduceMul, Nat.reduceLT, Nat.reduceLeDiff, Nat.reduceEqDiff, Nat.reduceBEq, Int.reduceToNat, Int.reduceLT, Int.reduceLE, Int.reduceEq, Int.reduceNeg, Int.reduceAdd, Int.reduceSub, Int.reduceMul, ↓reduceIte, Int.reduceBEq, Int.reduceBNe, length_pw, hget_pw0, hget_pw, hset_pw0, hset_pw, hgcl, hgc0]
end Go.Proofs
