/- Texts of a proof: lemmas. -/
import Derived.Test.YthejgnlikaiddaaDoorPDM
set_option linter.unusedSimpArgs false
set_option linter.unusedVariables false
set_option maxRecDepth 100000
namespace Go.Proofs
open Go Go.Mu

theorem hget_n {τ l : List AObj} {k : Nat} {o : AObj} (h : l[k]? = some o) : hget (τ ++ l) (τ.length + k) = some o := by rw [hget_at]; exact h
set_option maxHeartbeats 400000000 in
theorem plateDecided_c (nums : List Int) (hl : nums.length ≤ 4294967296) (σ : List AObj) : ACalls Tryd.prog 9 [.list .no 1 (nums.map (.int .i64))] σ (fun v _ => v = .bool true) := by
  refine ACalls.of_ev (E := Tryd.E 153 (fun _ => ([], [])) fs62) (Tryd.envOK 153 (fun _ => ([], [])) fs62 fs62_ok) Tryd.kp9 Tryd.func9 rfl (by kernel_rfl) (by simp [Tryd.E]) (Callable.of Tryd.func9 (by kernel_rfl) (by kernel_rfl)) (by kernel_rfl) ?_
  simp -implicitDefEqProofs (maxSteps := 2000000) (disch := omega) only [go_sem, reduceCtorEq, Nat.reduceAdd, Nat.reduceSub, Nat.reduceMul, Nat.reduceLT, Nat.reduceLeDiff, Nat.reduceEqDiff, Nat.reduceBEq, Int.reduceToNat, Int.reduceLT, Int.reduceLE, Int.reduceEq, Int.reduceNeg, Int.reduceAdd, Int.reduceSub, Int.reduceMul, ↓reduceIte, Int.reduceBEq, Int.reduceBNe]
  refine newPot_c nums .no hl _ _ fun s0 junk0 => ?_
  have hp : PotAt (σ ++ (.cells [.int .u64 s0] :: junk0)) σ.length := ⟨s0, by rw [hget_at0]; rfl⟩
  generalize σ ++ (.cells [.int .u64 s0] :: junk0) = σ1 at hp ⊢
  generalize σ.length = r at hp ⊢
  simp -implicitDefEqProofs (maxSteps := 2000000) (disch := omega) only [go_sem, reduceCtorEq, Nat.reduceAdd, Nat.reduceSub, Nat.reduceMul, Nat.reduceLT, Nat.reduceLeDiff, Nat.reduceEqDiff, Nat.reduceBEq, Int.reduceToNat, Int.reduceLT, Int.reduceLE, Int.reduceEq, Int.reduceNeg, Int.reduceAdd, Int.reduceSub, Int.reduceMul, ↓reduceIte, Int.reduceBEq, Int.reduceBNe]
  refine catalogueOf_c r 4 4 (by omega) (by omega) _ hp _ fun s1 c junk1 hC _ _ => ?_
  replace hp : PotAt (pw σ1 r s1 ++ junk1) r := (hp.pw s1).app
  generalize pw σ1 r s1 ++ junk1 = σ2 at hp ⊢
  clear junk0 junk1
  have hr := hp.lt
  have hcat := okCat_of hC
  have hcav : c.av = .agg [.int .i64 c.features, .list .no 3 (c.models.map Model.av)] := rfl
  simp -implicitDefEqProofs (maxSteps := 2000000) (disch := omega) only [go_sem, reduceCtorEq, Nat.reduceAdd, Nat.reduceSub, Nat.reduceMul, Nat.reduceLT, Nat.reduceLeDiff, Nat.reduceEqDiff, Nat.reduceBEq, Int.reduceToNat, Int.reduceLT, Int.reduceLE, Int.reduceEq, Int.reduceNeg, Int.reduceAdd, Int.reduceSub, Int.reduceMul, ↓reduceIte, Int.reduceBEq, Int.reduceBNe, length_pw, hget_pw0, hget_pw, hset_pw0, hset_pw, hcav]
  rw [← hcav]
  refine oldOf_c r c hC _ hp.app _ fun s2 o i k n1 junk2 hO => ?_
  rw [pw_app hr]
  obtain ⟨σ3, e3⟩ : ∃ σ3, σ3 = pw σ2 r s2 ++ [.cells [.int .i64 c.features, .list .no 3 (c.models.map Model.av)]] ++ junk2 := ⟨_, rfl⟩
  rw [← e3]
  have hgc0 : hget σ3 σ2.length = some (.cells [.int .i64 c.features, .list .no 3 (c.models.map Model.av)]) := by rw [e3, List.append_assoc, hget_pw0]; rfl
  have hgl : σ2.length < σ3.length := hget_lt hgc0
  clear e3 hr hp
  have hgcl : ∀ l, hget (σ3 ++ l) σ2.length = some (.cells [.int .i64 c.features, .list .no 3 (c.models.map Model.av)]) := fun l => by rw [hget_app hgl]; exact hgc0
  generalize σ2.length = a at hgcl hgc0 hgl ⊢
  have hOi := hO.ok
  clear hO
  obtain ⟨S, P, ch⟩ := o
  have hOo : OkO c ⟨S, P, 0⟩ := ⟨hOi.seen, hOi.plate, hOi.psize, by simp⟩
  clear hOi
  have hv := ck_of_okO hC hOo
  have hko := okOld_of hC hOo
  have hSl : S.length ≤ 4294967296 := hko.1
  have hlen := truthsM_len (o := ⟨S, P, 0⟩) hC
  have hall : ∀ m ∈ truthsM c ⟨S, P, 0⟩, m ∈ allMade c := fun m hm => (mem_truths.1 hm).1
  have hso := hOo.seen.1
  have hsb := hOo.seen.2
  simp only at hso hsb
  have hfe := hC.features
  have hS4 : S.length ≤ 4 := by omega
  have hleft := fun (f : Nat) (v : Int) (hf : (f : Int) < c.features) => left_p c (truthsM c ⟨S, P, 0⟩) f v hC hall hlen hf
  have hkn : knownM c ⟨S, P, 0⟩ [] = if truthsM c ⟨S, P, 0⟩ = [] then ([], 9) else (truthsM c ⟨S, P, 0⟩, 0) := by unfold knownM; rw [if_neg (by simp [hv]), if_neg (by simp [firstE])]
  have qf : fitsM c ⟨S, P, 0⟩ = if truthsM c ⟨S, P, 0⟩ = [] then ([], 9) else ((truthsM c ⟨S, P, 0⟩).map Made.pair, 0) := by
    unfold fitsM; rw [hkn]; by_cases h : truthsM c ⟨S, P, 0⟩ = []
    · rw [if_pos h, if_neg (by simp)]; simp [h]
    · rw [if_neg h, if_pos rfl]; simp [h]
  have qd : decM c ⟨S, P, 0⟩ = if truthsM c ⟨S, P, 0⟩ = [] then (0, 9) else if 5 ≤ needL (lostL S) (truthsM c ⟨S, P, 0⟩) then (0, 11) else ((needL (lostL S) (truthsM c ⟨S, P, 0⟩) : Int), 0) := by
    unfold decM; rw [hkn]; by_cases h : truthsM c ⟨S, P, 0⟩ = []
    · simp [h]
    · simp [h]
  have qm : (mdlM c ⟨S, P, 0⟩).2 = if truthsM c ⟨S, P, 0⟩ = [] then 9 else if modN (truthsM c ⟨S, P, 0⟩) = 1 then 0 else 12 := by
    by_cases h : truthsM c ⟨S, P, 0⟩ = []
    · rw [if_pos h]; unfold mdlM modelsM; rw [hkn, if_pos h]; simp
    · have hk0 : (knownM c ⟨S, P, 0⟩ []).2 = 0 := by rw [hkn, if_neg h]
      obtain ⟨vs, h1, h2, h3, h4⟩ := mdl_val hk0
      have hmn : modN (truthsM c ⟨S, P, 0⟩) = vs.length := by unfold modN; rw [h2]
      rw [if_neg h, hmn]; unfold mdlM; rw [h1, if_neg (by simp)]
      by_cases h5 : 1 < vs.length
      · rw [if_pos h5, if_neg (by omega)]
      · rw [if_neg h5, if_pos (by omega)]
  have hput : ∀ f : Nat, f < S.length → tg S (f : Int) = 0 → ∀ v : Int, 1 ≤ v → v ≤ 3 → partL (truthsM c ⟨S, P, 0⟩) f v ≠ [] → okOld ⟨S.set f v, P, 0⟩ ∧ decM c ⟨S.set f v, P, 0⟩ = if 5 ≤ needL (lostL S) (partL (truthsM c ⟨S, P, 0⟩) f v) then (0, 11) else ((needL (lostL S) (partL (truthsM c ⟨S, P, 0⟩) f v) : Int), 0) := fun f hf hz v h1 h2 hne => by
    have hXo : OkO c ⟨S.set f v, P, 0⟩ := ⟨⟨by simp only [List.length_set]; exact hso, fun y hy => by
      rcases List.mem_or_eq_of_mem_set hy with hy | rfl
      · exact hsb y hy
      · omega⟩, hOo.plate, hOo.psize, by simp⟩
    have ht := truths_put (c := c) (P := P) hf hz (show 0 < v by omega)
    have hvx := ck_of_okO hC hXo
    have hkx : knownM c ⟨S.set f v, P, 0⟩ [] = (truthsM c ⟨S.set f v, P, 0⟩, 0) := by unfold knownM; rw [if_neg (by simp [hvx]), if_neg (by simp [firstE]), ht, if_neg hne]
    refine ⟨okOld_of hC hXo, ?_⟩
    have hvm : v ∈ valF f (truthsM c ⟨S, P, 0⟩) := by
      apply Classical.byContradiction
      intro hn; exact hne (part_nil hn)
    have hdr := need_drop (F := lostL S) (a := (f : Int)) _ _ (Nat.le_refl _) hne (part_const hvm)
    unfold decM
    rw [hkx, if_pos rfl, ht]
    simp only
    rw [lostL_put hf (show v ≠ 0 by omega), hdr]
  clear hkn
  have hrng : ∀ f : Nat, f < S.length → ∀ v ∈ valF (f : Int) (truthsM c ⟨S, P, 0⟩), v = 1 ∨ v = 2 ∨ v = 3 := fun f hf v hvm => by
    obtain ⟨m, hm, rfl⟩ := valF_mem.1 hvm
    obtain ⟨q, k, hq, hkq, rfl⟩ := all_mem (hall m hm)
    have hgd : c.models.getD q default = c.models[q] := by simp [List.getD, List.getElem?_eq_getElem hq]
    rw [hgd] at hkq ⊢
    have hM := hC.model _ (List.getElem_mem hq)
    have hll := hM.look _ (List.getElem_mem hkq)
    have hg1 : (c.models[q]).looks.getD k [] = (c.models[q]).looks[k] := by simp [List.getD, List.getElem?_eq_getElem hkq]
    have e : tg (madeOf q c.models[q] k).look (f : Int) = tg (c.models[q]).looks[k] (f : Int) := by
      rw [made_look, tg_pad (by omega), hg1]
    have hb := hll.2 _ (List.getElem_mem (show f < (c.models[q]).looks[k].length by omega))
    rw [e, tgE (by omega)]; omega
  have hlaw := fun hne hm => decided_law (c := c) (S := S) (T := truthsM c ⟨S, P, 0⟩) hne hm hS4 hso hrng
  have hn5 := needL_le (F := lostL S) (T := truthsM c ⟨S, P, 0⟩)
  have hn0 : truthsM c ⟨S, P, 0⟩ ≠ [] → (modN (truthsM c ⟨S, P, 0⟩) = 1 ↔ needL (lostL S) (truthsM c ⟨S, P, 0⟩) = 0) := fun hne => by
    have h := need_iff (F := lostL S) (n := 0) hne (by omega)
    constructor
    · intro h1; have := h.2 (.inl h1); omega
    · intro h1
      rcases h.1 (by omega) with h2 | ⟨_, _, _, h2⟩
      · exact h2
      · omega
  obtain ⟨x1, x2, hx⟩ : ∃ x1 x2, mdlM c ⟨S, P, 0⟩ = (x1, x2) := ⟨_, _, rfl⟩
  rw [hx] at qm
  simp only at qm
  clear hrng hv hgl
  generalize truthsM c ⟨S, P, 0⟩ = T at *
  have hisv : isv S = .list .no 1 (S.map (.int .i64)) := rfl
  have hl1 : (T.map Made.pair).length = T.length := List.length_map _
  simp only [Old.av, isv]
  by_cases hT : T = []
  · rw [if_pos hT] at qf qd qm
    subst qm
    simp -implicitDefEqProofs (maxSteps := 2000000) (disch := omega) only [go_sem, reduceCtorEq, Nat.reduceAdd, Nat.reduceSub, Nat.reduceMul, Nat.reduceLT, Nat.reduceLeDiff, Nat.reduceEqDiff, Nat.reduceBEq, Int.reduceToNat, Int.reduceLT, Int.reduceLE, Int.reduceEq, Int.reduceNeg, Int.reduceAdd, Int.reduceSub, Int.reduceMul, ↓reduceIte, Int.reduceBEq, Int.reduceBNe, hgcl, hgc0, Cat_eta, Old_eta, hcat, hko, qf, qd, hx, isv]
  · rw [if_neg hT] at qf qd qm
    by_cases hm1 : modN T = 1
    · rw [if_pos hm1] at qm
      have hz := (hn0 hT).1 hm1
      rw [hz, if_neg (by omega)] at qd
      subst qm
      simp -implicitDefEqProofs (maxSteps := 2000000) (disch := omega) only [go_sem, reduceCtorEq, Nat.reduceAdd, Nat.reduceSub, Nat.reduceMul, Nat.reduceLT, Nat.reduceLeDiff, Nat.reduceEqDiff, Nat.reduceBEq, Int.reduceToNat, Int.reduceLT, Int.reduceLE, Int.reduceEq, Int.reduceNeg, Int.reduceAdd, Int.reduceSub, Int.reduceMul, ↓reduceIte, Int.reduceBEq, Int.reduceBNe, hgcl, hgc0, Cat_eta, Old_eta, hcat, hko, qf, qd, hx, isv]
    · rw [if_neg hm1] at qm
      subst qm
      have hnz : needL (lostL S) T ≠ 0 := fun h => hm1 ((hn0 hT).2 h)
      obtain ⟨w1, w2⟩ := hlaw hT hm1
      obtain ⟨y1, y2, hy, hyq⟩ : ∃ y1 y2 : Int, decM c ⟨S, P, 0⟩ = (y1, y2) ∧ ((y1 = 0 ∧ y2 = 11 ∧ 99 ≤ dD S (lostL S) T S.length) ∨ (y2 = 0 ∧ y1 = (dD S (lostL S) T S.length : Int) ∧ 1 ≤ y1)) := by
        rw [qd]
        by_cases h5 : 5 ≤ needL (lostL S) T
        · rw [if_pos h5]; exact ⟨_, _, rfl, .inl ⟨rfl, rfl, w2 h5⟩⟩
        · rw [if_neg h5]; exact ⟨_, _, rfl, .inr ⟨rfl, by rw [w1 (by omega)], by omega⟩⟩
      clear qd w1 w2 hlaw hn0 hnz hn5
      refine (?f : ?G → _) ?g
      case f =>
        intro hG
        rcases hyq with ⟨h1, h2, h3⟩ | ⟨h1, h2, h3⟩
        all_goals
          simp -implicitDefEqProofs (maxSteps := 2000000) (disch := omega) only [go_sem, reduceCtorEq, Nat.reduceAdd, Nat.reduceSub, Nat.reduceMul, Nat.reduceLT, Nat.reduceLeDiff, Nat.reduceEqDiff, Nat.reduceBEq, Int.reduceToNat, Int.reduceLT, Int.reduceLE, Int.reduceEq, Int.reduceNeg, Int.reduceAdd, Int.reduceSub, Int.reduceMul, ↓reduceIte, Int.reduceBEq, Int.reduceBNe, hgcl, hgc0, Cat_eta, Old_eta, hcat, hko, qf, hy, hx, isv]
          exact hG
      obtain ⟨τ0, hτ0⟩ : ∃ τ0, σ3 ++ [AObj.cells [.list .no 1 (S.map (.int .i64)), .str P, .int .i64 0]] = τ0 := ⟨_, rfl⟩
      have hgc' : ∀ l, hget (τ0 ++ l) a = some (.cells [.int .i64 c.features, .list .no 3 (c.models.map Model.av)]) := fun l => by rw [← hτ0, List.append_assoc]; exact hgcl _
      have hgo' : ∀ l, hget (τ0 ++ l) σ3.length = some (.cells [.list .no 1 (S.map (.int .i64)), .str P, .int .i64 0]) := fun l => by rw [← hτ0, List.append_assoc, hget_at0]; rfl
      obtain ⟨b, hb⟩ : ∃ b, σ3.length = b := ⟨_, rfl⟩
      rw [hb] at hgo'
      refine ARun.castS (sl' := [(2, AV.bool false), (4, .ptr a 0), (5, .ptr b 0), (8, .int .i64 y1), (9, .int .i64 y2), (10, .list .no 1 ((T.map Made.pair).map isv)), (14, .int .i64 99), (15, .int .i64 0)]) (σ' := τ0) ?_ hτ0.symm (by simp only [subF, lookA, hb, Nat.reduceEqDiff, ↓reduceIte, eq_self, and_self, true_and, and_true, isv])
      clear hτ0 hgcl hgc0 hb
      refine ARun.forG (Tryd.envOK 153 (fun _ => ([], [])) fs62 fs62_ok) S.length (fun _ => True) (fun f => [(14, .int .i64 (dD S (lostL S) T f : Nat)), (15, .int .i64 f)]) (fun _ l => τ0 ++ l) [] (by kernel_rfl) (by kernel_rfl) (by simp) (by simp [upd, ins, subF, lookA, dD]) trivial ?_ ?_
      · intro K Q' hK f j hf _ ih
        have hSf : idx (S.map (AV.int .i64)) (f : Int) = some (.int .i64 (tg S f)) := by rw [idx_nat hf, tgE hf]
        have hfc : (f : Int) < c.features := by omega
        have hdd : dD S (lostL S) T (f + 1) = if tg S (f : Int) = 0 then min (dD S (lostL S) T f) (wD (lostL S) T (f : Int) 3 + 1) else dD S (lostL S) T f := rfl
        rw [hdd] at ih
        clear hdd
        by_cases hz : tg S (f : Int) = 0
        · rw [if_pos hz] at ih
          rw [hz] at hSf
          generalize dD S (lostL S) T f = d at ih ⊢
          simp -implicitDefEqProofs (maxSteps := 2000000) (disch := omega) only [go_sem, reduceCtorEq, Nat.reduceAdd, Nat.reduceSub, Nat.reduceMul, Nat.reduceLT, Nat.reduceLeDiff, Nat.reduceEqDiff, Nat.reduceBEq, Int.reduceToNat, Int.reduceLT, Int.reduceLE, Int.reduceEq, Int.reduceNeg, Int.reduceAdd, Int.reduceSub, Int.reduceMul, ↓reduceIte, Int.reduceBEq, Int.reduceBNe, hgc', hgo', hSf]
          refine ARun.countA 3 (fun q τ => ∃ l, τ = τ0 ++ l) (fun q => [(16, .int .i64 (wD (lostL S) T f q : Nat)), (17, .int .i64 ((q : Int) + 1))]) (by simp [upd, ins, subF, lookA, wD]) ⟨j, rfl⟩ ?_ ?_
          · rintro q τ hq ⟨l, hl'⟩ ih2
            have g1 : ∀ l', hget (τ ++ l') a = some (.cells [.int .i64 c.features, .list .no 3 (c.models.map Model.av)]) := fun l' => by rw [hl', List.append_assoc]; exact hgc' _
            have g2 : ∀ l', hget (τ ++ l') b = some (.cells [.list .no 1 (S.map (.int .i64)), .str P, .int .i64 0]) := fun l' => by rw [hl', List.append_assoc]; exact hgo' _
            have g3 : hget τ a = some (.cells [.int .i64 c.features, .list .no 3 (c.models.map Model.av)]) := by rw [hl']; exact hgc' _
            have g4 : hget τ b = some (.cells [.list .no 1 (S.map (.int .i64)), .str P, .int .i64 0]) := by rw [hl']; exact hgo' _
            have hlf := hleft f ((q : Int) + 1) hfc
            have hln : leftN T f ((q : Int) + 1) = (partL T f ((q : Int) + 1)).length := rfl
            have hwd : wD (lostL S) T (f : Int) (q + 1) = if partL T f ((q : Int) + 1) = [] then wD (lostL S) T f q else if 5 ≤ needL (lostL S) (partL T f ((q : Int) + 1)) then 99 else max (wD (lostL S) T f q) (needL (lostL S) (partL T f ((q : Int) + 1))) := rfl
            rw [hwd] at ih2
            have hx5 := needL_le (F := lostL S) (T := partL T f ((q : Int) + 1))
            have hpt := hput f hf hz ((q : Int) + 1) (by omega) (by omega)
            clear hwd hput hleft ih
            rw [hln] at hlf
            generalize partL T f ((q : Int) + 1) = pt at hlf hpt hx5 ih2
            generalize wD (lostL S) T f q = w at ih2 ⊢
            by_cases hp : pt = []
            · rw [if_pos hp] at ih2
              subst hp
              refine ev_sound (Tryd.envOK 153 (fun _ => ([], [])) fs62 fs62_ok) (n := 1000) (by repeat (first | exact hK | (rw [todoOK_cons, Bool.and_eq_true]; refine ⟨by kernel_rfl, ?_⟩))) ?_
              simp -implicitDefEqProofs (maxSteps := 2000000) (disch := omega) only [go_sem, reduceCtorEq, Nat.reduceAdd, Nat.reduceSub, Nat.reduceMul, Nat.reduceLT, Nat.reduceLeDiff, Nat.reduceEqDiff, Nat.reduceBEq, Int.reduceToNat, Int.reduceLT, Int.reduceLE, Int.reduceEq, Int.reduceNeg, Int.reduceAdd, Int.reduceSub, Int.reduceMul, ↓reduceIte, Int.reduceBEq, Int.reduceBNe, g1, g2, g3, g4]
              refine hlf _ _ ?_
              simp -implicitDefEqProofs (maxSteps := 2000000) (disch := omega) only [go_sem, reduceCtorEq, Nat.reduceAdd, Nat.reduceSub, Nat.reduceMul, Nat.reduceLT, Nat.reduceLeDiff, Nat.reduceEqDiff, Nat.reduceBEq, Int.reduceToNat, Int.reduceLT, Int.reduceLE, Int.reduceEq, Int.reduceNeg, Int.reduceAdd, Int.reduceSub, Int.reduceMul, ↓reduceIte, Int.reduceBEq, Int.reduceBNe, g1, g2, g3, g4]
              exact (ih2 τ ⟨l, hl'⟩).castS rfl (by simp [upd, ins, subF, lookA])
            · rw [if_neg hp] at ih2
              obtain ⟨hkx, hdx⟩ := hpt hp
              have hp0 : 0 < pt.length := List.length_pos_iff.2 hp
              refine ev_sound (Tryd.envOK 153 (fun _ => ([], [])) fs62 fs62_ok) (n := 17) (by repeat (first | exact hK | (rw [todoOK_cons, Bool.and_eq_true]; refine ⟨by kernel_rfl, ?_⟩))) ?_
              simp -implicitDefEqProofs (maxSteps := 2000000) (disch := omega) only [go_sem, reduceCtorEq, Nat.reduceAdd, Nat.reduceSub, Nat.reduceMul, Nat.reduceLT, Nat.reduceLeDiff, Nat.reduceEqDiff, Nat.reduceBEq, Int.reduceToNat, Int.reduceLT, Int.reduceLE, Int.reduceEq, Int.reduceNeg, Int.reduceAdd, Int.reduceSub, Int.reduceMul, ↓reduceIte, Int.reduceBEq, Int.reduceBNe, g1, g2, g3, g4]
              refine hlf _ _ ?_
              simp -implicitDefEqProofs (maxSteps := 2000000) (disch := omega) only [go_sem, reduceCtorEq, Nat.reduceAdd, Nat.reduceSub, Nat.reduceMul, Nat.reduceLT, Nat.reduceLeDiff, Nat.reduceEqDiff, Nat.reduceBEq, Int.reduceToNat, Int.reduceLT, Int.reduceLE, Int.reduceEq, Int.reduceNeg, Int.reduceAdd, Int.reduceSub, Int.reduceMul, ↓reduceIte, Int.reduceBEq, Int.reduceBNe, g1, g2, g3, g4]
              have hoav : (.agg [.list .no 1 (S.map (.int .i64)), .str P, .int .i64 0] : AV) = (Old.mk S P 0).av := rfl
              rw [hoav]
              refine copyOldV_c ⟨S, P, 0⟩ hSl _ _ ?_
              have hS1 : (S.map (AV.int .i64))[f]? = some (.int .i64 (tg S f)) := by rw [tgE hf]; simp [List.getElem?_eq_getElem hf]
              simp -implicitDefEqProofs (maxSteps := 2000000) (disch := omega) only [go_sem, reduceCtorEq, Nat.reduceAdd, Nat.reduceSub, Nat.reduceMul, Nat.reduceLT, Nat.reduceLeDiff, Nat.reduceEqDiff, Nat.reduceBEq, Int.reduceToNat, Int.reduceLT, Int.reduceLE, Int.reduceEq, Int.reduceNeg, Int.reduceAdd, Int.reduceSub, Int.reduceMul, ↓reduceIte, Int.reduceBEq, Int.reduceBNe, g1, g2, g3, g4, hS1]
              change ARun _ _ _ _ _ _
              have hset1 : (S.map (AV.int .i64)).set f (.int .i64 ((q : Int) + 1)) = (S.set f ((q : Int) + 1)).map (.int .i64) := by rw [List.map_set]
              rw [hset1]
              refine ARun.freezeK (τ.length + 3) 0 (r := τ.length + 2) (n := S.length) (sz := 1) (xs := (S.set f ((q : Int) + 1)).map (.int .i64)) (cs := [.vec (τ.length + 2) S.length, .str P, .int .i64 0]) (hget_n rfl) rfl (hget_n rfl) (by simp) ?_
              simp only [hset_at, List.set_cons_succ, List.set_cons_zero]
              refine ev_sound (Tryd.envOK 153 (fun _ => ([], [])) fs62 fs62_ok) (n := 1000) (by repeat (first | exact hK | (rw [todoOK_cons, Bool.and_eq_true]; refine ⟨by kernel_rfl, ?_⟩))) ?_
              by_cases h5 : 5 ≤ needL (lostL S) pt
              · rw [if_pos h5] at hdx ih2
                simp -implicitDefEqProofs (maxSteps := 2000000) (disch := omega) only [go_sem, reduceCtorEq, Nat.reduceAdd, Nat.reduceSub, Nat.reduceMul, Nat.reduceLT, Nat.reduceLeDiff, Nat.reduceEqDiff, Nat.reduceBEq, Int.reduceToNat, Int.reduceLT, Int.reduceLE, Int.reduceEq, Int.reduceNeg, Int.reduceAdd, Int.reduceSub, Int.reduceMul, ↓reduceIte, Int.reduceBEq, Int.reduceBNe, g1, g2, Cat_eta, hcat, hkx, hdx]
                exact (ih2 _ ⟨l ++ [_, _, _, _], by rw [hl', List.append_assoc]⟩).castS rfl (by simp [upd, ins, subF, lookA])
              · rw [if_neg h5] at hdx ih2
                generalize needL (lostL S) pt = m at hdx ih2 hx5
                simp -implicitDefEqProofs (maxSteps := 2000000) (disch := omega) only [go_sem, reduceCtorEq, Nat.reduceAdd, Nat.reduceSub, Nat.reduceMul, Nat.reduceLT, Nat.reduceLeDiff, Nat.reduceEqDiff, Nat.reduceBEq, Int.reduceToNat, Int.reduceLT, Int.reduceLE, Int.reduceEq, Int.reduceNeg, Int.reduceAdd, Int.reduceSub, Int.reduceMul, ↓reduceIte, Int.reduceBEq, Int.reduceBNe, g1, g2, Cat_eta, hcat, hkx, hdx, maxA, maxL]
                have hmx : (if w < m then (m : Int) else (w : Int)) = ((max w m : Nat) : Int) := by split <;> omega
                exact (ih2 _ ⟨l ++ [_, _, _, _], by rw [hl', List.append_assoc]⟩).castS rfl (by simp [upd, ins, subF, lookA, hmx])
          · rintro τ ⟨l, hl'⟩
            have hw9 : wD (lostL S) T f 3 ≤ 99 := by rcases wD_spec (F := lostL S) (T := T) (a := (f : Int)) 3 with ⟨h, _⟩ | ⟨h, _⟩ <;> omega
            generalize wD (lostL S) T f 3 = w at ih hw9 ⊢
            refine ev_sound (Tryd.envOK 153 (fun _ => ([], [])) fs62 fs62_ok) (n := 1000) (by repeat (first | exact hK | (rw [todoOK_cons, Bool.and_eq_true]; refine ⟨by kernel_rfl, ?_⟩))) ?_
            simp -implicitDefEqProofs (maxSteps := 2000000) (disch := omega) only [go_sem, reduceCtorEq, Nat.reduceAdd, Nat.reduceSub, Nat.reduceMul, Nat.reduceLT, Nat.reduceLeDiff, Nat.reduceEqDiff, Nat.reduceBEq, Int.reduceToNat, Int.reduceLT, Int.reduceLE, Int.reduceEq, Int.reduceNeg, Int.reduceAdd, Int.reduceSub, Int.reduceMul, ↓reduceIte, Int.reduceBEq, Int.reduceBNe, minA, minL]
            have hmn : (if (w : Int) + 1 < (d : Int) then (w : Int) + 1 else (d : Int)) = ((min d (w + 1) : Nat) : Int) := by split <;> omega
            exact (ih trivial l).castS hl'.symm (by simp [upd, ins, subF, lookA, hmn])
        · rw [if_neg hz] at ih
          simp -implicitDefEqProofs (maxSteps := 2000000) (disch := omega) only [go_sem, reduceCtorEq, Nat.reduceAdd, Nat.reduceSub, Nat.reduceMul, Nat.reduceLT, Nat.reduceLeDiff, Nat.reduceEqDiff, Nat.reduceBEq, Int.reduceToNat, Int.reduceLT, Int.reduceLE, Int.reduceEq, Int.reduceNeg, Int.reduceAdd, Int.reduceSub, Int.reduceMul, ↓reduceIte, Int.reduceBEq, Int.reduceBNe, hgc', hgo', hSf]
          exact (ih trivial j).castS rfl (by simp [upd, ins, subF, lookA])
      · intro j _
        generalize dD S (lostL S) T S.length = d at hyq ⊢
        rcases hyq with ⟨h1, h2, h3⟩ | ⟨h1, h2, h3⟩
        · simp -implicitDefEqProofs (maxSteps := 2000000) (disch := omega) only [go_sem, reduceCtorEq, Nat.reduceAdd, Nat.reduceSub, Nat.reduceMul, Nat.reduceLT, Nat.reduceLeDiff, Nat.reduceEqDiff, Nat.reduceBEq, Int.reduceToNat, Int.reduceLT, Int.reduceLE, Int.reduceEq, Int.reduceNeg, Int.reduceAdd, Int.reduceSub, Int.reduceMul, ↓reduceIte, Int.reduceBEq, Int.reduceBNe, hgc', hgo']
        · simp -implicitDefEqProofs (maxSteps := 2000000) (disch := omega) only [go_sem, reduceCtorEq, Nat.reduceAdd, Nat.reduceSub, Nat.reduceMul, Nat.reduceLT, Nat.reduceLeDiff, Nat.reduceEqDiff, Nat.reduceBEq, Int.reduceToNat, Int.reduceLT, Int.reduceLE, Int.reduceEq, Int.reduceNeg, Int.reduceAdd, Int.reduceSub, Int.reduceMul, ↓reduceIte, Int.reduceBEq, Int.reduceBNe, hgc', hgo']
end Go.Proofs
