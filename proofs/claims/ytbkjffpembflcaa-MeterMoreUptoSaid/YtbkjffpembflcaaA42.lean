/- Texts of a proof: lemmas. -/
import Derived.Test.YtbkjffpembflcaaAK
import Derived.Test.YtbkjffpembflcaaMW
set_option linter.unusedSimpArgs false
set_option linter.unusedVariables false
set_option maxRecDepth 100000
namespace Go.Proofs
open Go Go.Mu

theorem ACalls.of_evN {E : Env} (n : Nat) (hE : EnvOK E) {f : FuncId} {fn : Func} {c : Code} {args : List AV} {σ : List AObj} {Q : AV → List AObj → Prop} (kp : Nat → Bool) (hf : E.P.funcs[f]? = some fn) (hb : fn.body = some c) (hN : fn.ntmps = E.N) (hA : args.length ≤ E.N)
    (hC : Callable E.P f) (hO : todoOK E [.code c] = true)
    (h : ev E none n [.code c] ⟨kp, [], number 0 args⟩ σ (retPost E fn.results.toList Q)) : ACalls E.P f args σ Q := by
  refine ACalls.of_run hE kp hf hb hN hA hC ((ev_sound hE hO h).mono fun j fr σ' ⟨h1, h2⟩ => ⟨h1, ?_⟩)
  cases hr : resAs E fr σ' fn.results.toList with
  | none => rw [hr] at h2; exact h2.elim
  | some vs => rw [hr] at h2; exact ⟨vs, rfl, h2⟩
set_option maxHeartbeats 40000000 in
theorem meterMore_c (nums : List Int) (hl : nums.length ≤ 4294967296) (σ : List AObj) : ACalls Try.prog 10 [.list .no 1 (nums.map (.int .i64))] σ (fun v _ => v = .bool true) := by
  refine ACalls.of_evN 8 (E := Try.E 236 Try.ord10 fs22) (Try.envOK 236 Try.ord10 fs22 fs22_ok) Try.kp10 Try.func10 rfl (by kernel_rfl) (by simp [Try.E]) (Callable.of Try.func10 (by kernel_rfl) (by kernel_rfl)) (by kernel_rfl) ?_
  simp -implicitDefEqProofs (maxSteps := 2000000) (disch := omega) only [go_sem, reduceCtorEq, Nat.reduceAdd, Nat.reduceSub, Nat.reduceMul, Nat.reduceLT, Nat.reduceLeDiff, Nat.reduceEqDiff, Nat.reduceBEq, Int.reduceToNat, Int.reduceLT, Int.reduceLE, Int.reduceEq, Int.reduceNeg, Int.reduceAdd, Int.reduceSub, Int.reduceMul, ↓reduceIte, Int.reduceBEq, Int.reduceBNe]
  refine newPot_c nums .no hl _ _ fun s0 junk0 => ?_
  have hp : PotAt (σ ++ (.cells [.int .u64 s0] :: junk0)) σ.length := ⟨s0, by rw [hget_at0]; rfl⟩
  generalize σ ++ (.cells [.int .u64 s0] :: junk0) = σ1 at hp ⊢
  generalize σ.length = r at hp ⊢
  simp -implicitDefEqProofs (maxSteps := 2000000) (disch := omega) only [go_sem, reduceCtorEq, Nat.reduceAdd, Nat.reduceSub, Nat.reduceMul, Nat.reduceLT, Nat.reduceLeDiff, Nat.reduceEqDiff, Nat.reduceBEq, Int.reduceToNat, Int.reduceLT, Int.reduceLE, Int.reduceEq, Int.reduceNeg, Int.reduceAdd, Int.reduceSub, Int.reduceMul, ↓reduceIte, Int.reduceBEq, Int.reduceBNe]
  refine earOf_c r 3 4 4 (by omega) (by omega) (by omega) _ hp _ fun s1 e T junk1 hE => ?_
  replace hp : PotAt (pw σ1 r s1 ++ junk1) r := (hp.pw s1).app
  generalize pw σ1 r s1 ++ junk1 = σ2 at hp ⊢
  clear junk0 junk1
  have hr := hp.lt
  obtain ⟨sl, ts, rs⟩ := e
  have hsl := hE.sl
  have hlo := hE.lo
  have hhi := hE.hi
  have hbd := hE.bd
  have hlen := hE.len
  have hrs := hE.rn
  simp only at hsl hlen hrs
  simp only [Ear.av]
  simp -implicitDefEqProofs (maxSteps := 2000000) (disch := omega) only [go_sem, reduceCtorEq, Nat.reduceAdd, Nat.reduceSub, Nat.reduceMul, Nat.reduceLT, Nat.reduceLeDiff, Nat.reduceEqDiff, Nat.reduceBEq, Int.reduceToNat, Int.reduceLT, Int.reduceLE, Int.reduceEq, Int.reduceNeg, Int.reduceAdd, Int.reduceSub, Int.reduceMul, ↓reduceIte, Int.reduceBEq, Int.reduceBNe, length_pw, hget_pw0, hget_pw, hset_pw0, hset_pw]
  refine readingOf_c r ⟨sl, ts, rs⟩ T .no (by simp only; omega) (by omega) (fun x hx => by have := hbd x hx; omega) _ hp.app _ fun s3 x junk3 hx1 hx2 => ?_
  rw [pw_app hr, List.append_assoc]
  have hp3 : PotAt (pw σ2 r s3) r := hp.pw s3
  have hR : hget (pw σ2 r s3 ++ ([.cells [.int .i64 sl, .list .no 2 (ts.map Rng.av), .list .no 6 (rs.map Rd.av)]] ++ junk3)) σ2.length = some (.cells [.int .i64 sl, .list .no 2 (ts.map Rng.av), .list .no 6 (rs.map Rd.av)]) := by rw [hget_pw0]; rfl
  have hpt : PotAt (pw σ2 r s3 ++ ([.cells [.int .i64 sl, .list .no 2 (ts.map Rng.av), .list .no 6 (rs.map Rd.av)]] ++ junk3)) r := hp3.app
  have hRr : r ≠ σ2.length := by omega
  generalize pw σ2 r s3 ++ ([.cells [.int .i64 sl, .list .no 2 (ts.map Rng.av), .list .no 6 (rs.map Rd.av)]] ++ junk3) = τ at hR hpt ⊢
  generalize σ2.length = R0 at hR hRr ⊢
  clear hp hp3 hr junk3
  have hrl : r < τ.length := hpt.lt
  have hRq : ∀ l, hget (τ ++ l) R0 = some (.cells [.int .i64 sl, .list .no 2 (ts.map Rng.av), .list .no 6 (rs.map Rd.av)]) := fun l => by rw [hget_app (hget_lt hR)]; exact hR
  have hRp : ∀ s l, hget (pw τ r s ++ l) R0 = some (.cells [.int .i64 sl, .list .no 2 (ts.map Rng.av), .list .no 6 (rs.map Rd.av)]) := fun s l => by
    rw [hget_app (by rw [length_pw]; exact hget_lt hR)]
    unfold pw
    rw [hget_ne hRr]; exact hR
  obtain ⟨hy1, hy2, hy3⟩ := cutR_ok hsl.1 hbd hx1 hx2
  have hMo := more_of hE (by omega) hy1 hy2 hy3
  obtain ⟨k, a, b, s, ⟨x1, x2⟩⟩ := x
  have ha : 0 ≤ a ∧ a < T.length := by simp only [ckR] at hx1; grind
  have hs : 0 ≤ s ∧ s ≤ 20 := by simp only [ckR] at hx1; grind
  have hxx : 0 ≤ x1 ∧ x1 ≤ 25000 := by simp only [ckR] at hx1; grind
  have hTa : 50 ≤ tg T a ∧ tg T a ≤ 50030 := by
    have e : a = (a.toNat : Int) := by omega
    rw [e, tgE (by omega)]
    exact hbd _ (List.getElem_mem _)
  have hn := mul_le (a := tg T a) (s := s) (by omega) hs
  have hTi : idx (T.map (AV.int .i64)) a = some (.int .i64 (tg T a)) := idx_tg (by omega) (by omega)
  have hdq : (tg T a * s).tdiv 100 = tg T a * s / 100 := Int.tdiv_eq_ediv_of_nonneg hn.1
  have hw : IntKind.i64.wrap (tg T a * s) = tg T a * s := wrap64 (by omega) (by omega)
  have hT1 : ts.length ≤ 4294967296 := by omega
  have hR1 : rs.length ≤ 4294967296 := by omega
  simp only [Rd.av]
  have hr0 : ∀ o : AObj, hget (τ ++ [o]) R0 = some (.cells [.int .i64 sl, .list .no 2 (ts.map Rng.av), .list .no 6 (rs.map Rd.av)]) := fun o => hRq _
  simp -implicitDefEqProofs (maxSteps := 2000000) (disch := omega) only [go_sem, reduceCtorEq, Nat.reduceAdd, Nat.reduceSub, Nat.reduceMul, Nat.reduceLT, Nat.reduceLeDiff, Nat.reduceEqDiff, Nat.reduceBEq, Int.reduceToNat, Int.reduceLT, Int.reduceLE, Int.reduceEq, Int.reduceNeg, Int.reduceAdd, Int.reduceSub, Int.reduceMul, ↓reduceIte, Int.reduceBEq, Int.reduceBNe, hRq, hTi, hw, hdq, Rng.av]
  obtain ⟨v1, v2, hv⟩ : ∃ v1 v2, cutR sl T ⟨k, a, b, s, ⟨x1, x2⟩⟩ = ⟨k, a, b, s, ⟨v1, v2⟩⟩ := by
    unfold cutR withS
    split
    · split <;> exact ⟨_, _, rfl⟩
    · exact ⟨_, _, rfl⟩
  have hv' := hv
  rw [hv] at hMo
  unfold cutR withS at hv
  simp only at hv
  have hdis : (tg T a * s ≤ 100 * (x1 - 1 - sl)) ∨ (¬ (tg T a * s ≤ 100 * (x1 - 1 - sl)) ∧ 100 * (x1 + 1 + sl) ≤ tg T a * s) ∨ (¬ (tg T a * s ≤ 100 * (x1 - 1 - sl)) ∧ ¬ (100 * (x1 + 1 + sl) ≤ tg T a * s)) := by omega
  have hk1 : k = 1 ∨ k ≠ 1 := by omega
  refine (?f : ?G → _) ?g
  case f =>
    intro hG
    change ARun _ _ _ _ _ _
    rcases hk1 with hk | hk
    · rw [if_pos hk] at hv
      rcases hdis with c1 | ⟨c1, c2⟩ | ⟨c1, c2⟩
      · rw [if_pos (.inl c1)] at hv
        simp only [Rd.mk.injEq, Rng.mk.injEq, true_and] at hv
        obtain ⟨e1, e2⟩ := hv
        refine ev_sound (Try.envOK 236 Try.ord10 fs22 fs22_ok) (n := 12) (by kernel_rfl) ?_
        simp -implicitDefEqProofs (maxSteps := 2000000) (disch := omega) only [go_sem, reduceCtorEq, Nat.reduceAdd, Nat.reduceSub, Nat.reduceMul, Nat.reduceLT, Nat.reduceLeDiff, Nat.reduceEqDiff, Nat.reduceBEq, Int.reduceToNat, Int.reduceLT, Int.reduceLE, Int.reduceEq, Int.reduceNeg, Int.reduceAdd, Int.reduceSub, Int.reduceMul, ↓reduceIte, Int.reduceBEq, Int.reduceBNe, hRq, hTi, hw, hdq, Rng.av]
        change ARun _ _ _ _ _ _
        refine ARun.castS (sl' := [(0, .list .no 1 (nums.map (.int .i64))), (2, .bool false), (3, .ptr r 0), (4, .ptr R0 0), (5, .list .no 1 (T.map (.int .i64))), (6, .ptr τ.length 0)]) (σ' := τ ++ [.cells [.int .i64 k, .int .i64 a, .int .i64 b, .int .i64 s, .int .i64 v1, .int .i64 v2]]) ?_ (by rw [← e1, ← e2]) (by simp [subF, lookA])
        exact hG
      · rw [if_pos (.inr c2)] at hv
        simp only [Rd.mk.injEq, Rng.mk.injEq, true_and] at hv
        obtain ⟨e1, e2⟩ := hv
        refine ev_sound (Try.envOK 236 Try.ord10 fs22 fs22_ok) (n := 12) (by kernel_rfl) ?_
        simp -implicitDefEqProofs (maxSteps := 2000000) (disch := omega) only [go_sem, reduceCtorEq, Nat.reduceAdd, Nat.reduceSub, Nat.reduceMul, Nat.reduceLT, Nat.reduceLeDiff, Nat.reduceEqDiff, Nat.reduceBEq, Int.reduceToNat, Int.reduceLT, Int.reduceLE, Int.reduceEq, Int.reduceNeg, Int.reduceAdd, Int.reduceSub, Int.reduceMul, ↓reduceIte, Int.reduceBEq, Int.reduceBNe, hRq, hTi, hw, hdq, Rng.av]
        change ARun _ _ _ _ _ _
        refine ARun.castS (sl' := [(0, .list .no 1 (nums.map (.int .i64))), (2, .bool false), (3, .ptr r 0), (4, .ptr R0 0), (5, .list .no 1 (T.map (.int .i64))), (6, .ptr τ.length 0)]) (σ' := τ ++ [.cells [.int .i64 k, .int .i64 a, .int .i64 b, .int .i64 s, .int .i64 v1, .int .i64 v2]]) ?_ (by rw [← e1, ← e2]) (by simp [subF, lookA])
        exact hG
      · rw [if_neg (by rintro (h | h); exact c1 h; exact c2 h)] at hv
        simp only [Rd.mk.injEq, Rng.mk.injEq, true_and] at hv
        obtain ⟨e1, e2⟩ := hv
        refine ev_sound (Try.envOK 236 Try.ord10 fs22 fs22_ok) (n := 12) (by kernel_rfl) ?_
        simp -implicitDefEqProofs (maxSteps := 2000000) (disch := omega) only [go_sem, reduceCtorEq, Nat.reduceAdd, Nat.reduceSub, Nat.reduceMul, Nat.reduceLT, Nat.reduceLeDiff, Nat.reduceEqDiff, Nat.reduceBEq, Int.reduceToNat, Int.reduceLT, Int.reduceLE, Int.reduceEq, Int.reduceNeg, Int.reduceAdd, Int.reduceSub, Int.reduceMul, ↓reduceIte, Int.reduceBEq, Int.reduceBNe, hRq, hTi, hw, hdq, Rng.av]
        change ARun _ _ _ _ _ _
        refine ARun.castS (sl' := [(0, .list .no 1 (nums.map (.int .i64))), (2, .bool false), (3, .ptr r 0), (4, .ptr R0 0), (5, .list .no 1 (T.map (.int .i64))), (6, .ptr τ.length 0)]) (σ' := τ ++ [.cells [.int .i64 k, .int .i64 a, .int .i64 b, .int .i64 s, .int .i64 v1, .int .i64 v2]]) ?_ (by rw [← e1, ← e2]) (by simp [subF, lookA])
        exact hG
    · rw [if_neg hk] at hv
      simp only [Rd.mk.injEq, Rng.mk.injEq, true_and] at hv
      obtain ⟨e1, e2⟩ := hv
      refine ev_sound (Try.envOK 236 Try.ord10 fs22 fs22_ok) (n := 5) (by kernel_rfl) ?_
      simp -implicitDefEqProofs (maxSteps := 2000000) (disch := omega) only [go_sem, reduceCtorEq, Nat.reduceAdd, Nat.reduceSub, Nat.reduceMul, Nat.reduceLT, Nat.reduceLeDiff, Nat.reduceEqDiff, Nat.reduceBEq, Int.reduceToNat, Int.reduceLT, Int.reduceLE, Int.reduceEq, Int.reduceNeg, Int.reduceAdd, Int.reduceSub, Int.reduceMul, ↓reduceIte, Int.reduceBEq, Int.reduceBNe, hRq, hTi, hw, hdq, Rng.av]
      change ARun _ _ _ _ _ _
      refine ARun.castS (sl' := [(0, .list .no 1 (nums.map (.int .i64))), (2, .bool false), (3, .ptr r 0), (4, .ptr R0 0), (5, .list .no 1 (T.map (.int .i64))), (6, .ptr τ.length 0)]) (σ' := τ ++ [.cells [.int .i64 k, .int .i64 a, .int .i64 b, .int .i64 s, .int .i64 v1, .int .i64 v2]]) ?_ (by rw [← e1, ← e2]) (by simp [subF, lookA])
      exact hG
  clear hdis hk1 hv hv' hTi hw hdq hn hTa hxx hs ha hx1 hx2 hr0 hy1 hy2 hy3
  obtain ⟨wi, n1, n2, wo, l1, l2, l3, l4, t1, t2, t3, f⟩ := hMo
  dsimp only at wi n1 n2 wo l1 l2 l3 l4 t1 t2 t3 f
  have hr2 : (rs ++ [(⟨k, a, b, s, ⟨v1, v2⟩⟩ : Rd)]).length = rs.length + 1 := by simp
  generalize rs ++ [(⟨k, a, b, s, ⟨v1, v2⟩⟩ : Rd)] = rs2 at wi n2 l1 l2 l4 t2 t3 hr2
  generalize truthsL ⟨sl, ts, rs2⟩ = T2 at n2 l1 l2 l4 t2 t3
  generalize hT1d : truthsL ⟨sl, ts, rs⟩ = L1 at n1 wo l2 l3 l4 t1 t3 f
  generalize worstL _ _ L1 = w at wo l3 l4
  have hc1 : ¬ ((T2.length : Int) < 1) := by omega
  have hc2 : ¬ ((L1.length : Int) < T2.length) := by omega
  have hc3 : ¬ ((L1.length : Int) < w) := by omega
  refine ev_sound (Try.envOK 236 Try.ord10 fs22 fs22_ok) (n := 1000) (by kernel_rfl) ?_
  by_cases hk2 : k = 2
  · simp -implicitDefEqProofs (maxSteps := 2000000) (disch := omega) only [go_sem, reduceCtorEq, Nat.reduceAdd, Nat.reduceSub, Nat.reduceMul, Nat.reduceLT, Nat.reduceLeDiff, Nat.reduceEqDiff, Nat.reduceBEq, Int.reduceToNat, Int.reduceLT, Int.reduceLE, Int.reduceEq, Int.reduceNeg, Int.reduceAdd, Int.reduceSub, Int.reduceMul, ↓reduceIte, Int.reduceBEq, Int.reduceBNe, hRq, Rng.av, Ear.av, wi, n1, n2, wo, hr2, hc1, hc2, hc3]
    clear wi n1 n2 wo l1 l2 l3 l4 hc1 hc2 hc3
    as_aux_lemma =>
      refine within_c r 0 sl (by omega) (by omega) _ hpt.app _ fun s5 u hu1 hu2 => ?_
      rw [pw_app hrl]
      have hus : 0 ≤ u ∧ u ≤ sl := by omega
      obtain ⟨A1, hA1⟩ : ∃ y, ((List.range ts.length).map fun (i : Nat) => spanL (fun t => tg t i) L1) = y := ⟨_, rfl⟩
      obtain ⟨B1, hB1⟩ : ∃ y, ((List.range ts.length).map fun (i : Nat) => spanL (fun t => tg t i) T2) = y := ⟨_, rfl⟩
      have hAl : A1.length = ts.length := by rw [← hA1]; simp
      have hBl : B1.length = ts.length := by rw [← hB1]; simp
      have hAB : ∀ i (h : i < A1.length) (h' : i < B1.length), A1[i].lo ≤ B1[i].lo ∧ B1[i].hi ≤ A1[i].hi := by
        intro i h h'
        subst hA1 hB1
        simp only [List.getElem_map, List.getElem_range]
        exact t3 _
      rw [hA1] at t1
      rw [hB1] at t2
      rcases f u hus.1 hus.2 with f1 | ⟨f1, f2⟩ <;> clear f
      · simp -implicitDefEqProofs (maxSteps := 2000000) (disch := omega) only [go_sem, reduceCtorEq, Nat.reduceAdd, Nat.reduceSub, Nat.reduceMul, Nat.reduceLT, Nat.reduceLeDiff, Nat.reduceEqDiff, Nat.reduceBEq, Int.reduceToNat, Int.reduceLT, Int.reduceLE, Int.reduceEq, Int.reduceNeg, Int.reduceAdd, Int.reduceSub, Int.reduceMul, ↓reduceIte, Int.reduceBEq, Int.reduceBNe, hRq, hRp, Rng.av, Ear.av, length_pw, hget_pw0, hget_pw, hset_pw0, hset_pw, t1, t2, f1, hAl, hBl]
        refine ARun.forG (Try.envOK 236 Try.ord10 fs22 fs22_ok) A1.length (fun _ => True) (fun i => [(23, .int .i64 i)]) (fun _ _ => pw τ r s5 ++ [.cells [.int .i64 k, .int .i64 a, .int .i64 b, .int .i64 s, .int .i64 v1, .int .i64 v2], .cells [.int .i64 sl, .list .no 2 (ts.map Rng.av), .list .no 6 (rs2.map Rd.av)], .cells [.int .i64 u, .list .no 2 (ts.map Rng.av), .list .no 6 (rs.map Rd.av)]]) [] (by kernel_rfl) (by kernel_rfl) rfl (by simp [upd, ins, subF, lookA]) trivial ?_ ?_
        · intro K Q' hK i j hi _ ih
          have hAi : idx (A1.map Rng.av) (i : Int) = some A1[i].av := by rw [idx_nat hi]
          have hBi : idx (B1.map Rng.av) (i : Int) = some B1[i].av := by rw [idx_nat (by omega)]
          have hdi : decide (A1[i].lo ≤ B1[i].lo ∧ B1[i].hi ≤ A1[i].hi) = true := decide_eq_true (hAB i hi (by omega))
          generalize A1[i] = pa at hAi hdi
          generalize B1[i] = pb at hBi hdi
          simp -implicitDefEqProofs (maxSteps := 2000000) (disch := omega) only [go_sem, reduceCtorEq, Nat.reduceAdd, Nat.reduceSub, Nat.reduceMul, Nat.reduceLT, Nat.reduceLeDiff, Nat.reduceEqDiff, Nat.reduceBEq, Int.reduceToNat, Int.reduceLT, Int.reduceLE, Int.reduceEq, Int.reduceNeg, Int.reduceAdd, Int.reduceSub, Int.reduceMul, ↓reduceIte, Int.reduceBEq, Int.reduceBNe, hRq, hRp, Rng.av, Ear.av, length_pw, hget_pw0, hget_pw, hset_pw0, hset_pw, hAl, hBl, hAi, hBi, hdi]
          exact (ih trivial []).castS rfl (by simp [upd, ins, subF, lookA])
        · intro j _
          simp -implicitDefEqProofs (maxSteps := 2000000) (disch := omega) only [go_sem, reduceCtorEq, Nat.reduceAdd, Nat.reduceSub, Nat.reduceMul, Nat.reduceLT, Nat.reduceLeDiff, Nat.reduceEqDiff, Nat.reduceBEq, Int.reduceToNat, Int.reduceLT, Int.reduceLE, Int.reduceEq, Int.reduceNeg, Int.reduceAdd, Int.reduceSub, Int.reduceMul, ↓reduceIte, Int.reduceBEq, Int.reduceBNe, hRq, hRp, Rng.av, Ear.av, length_pw, hget_pw0, hget_pw, hset_pw0, hset_pw, hAl, hBl]
      · obtain ⟨C1, hC1⟩ : ∃ y, ((List.range ts.length).map fun (i : Nat) => spanL (fun t => tg t i) (truthsL ⟨u, ts, rs⟩)) = y := ⟨_, rfl⟩
        have hCl : C1.length = ts.length := by rw [← hC1]; simp
        have hAC : ∀ i (h : i < A1.length) (h' : i < C1.length), A1[i].lo ≤ C1[i].lo ∧ C1[i].hi ≤ A1[i].hi := by
          intro i h h'
          subst hA1 hC1
          simp only [List.getElem_map, List.getElem_range]
          exact f2 _
        rw [hC1] at f1
        simp -implicitDefEqProofs (maxSteps := 2000000) (disch := omega) only [go_sem, reduceCtorEq, Nat.reduceAdd, Nat.reduceSub, Nat.reduceMul, Nat.reduceLT, Nat.reduceLeDiff, Nat.reduceEqDiff, Nat.reduceBEq, Int.reduceToNat, Int.reduceLT, Int.reduceLE, Int.reduceEq, Int.reduceNeg, Int.reduceAdd, Int.reduceSub, Int.reduceMul, ↓reduceIte, Int.reduceBEq, Int.reduceBNe, hRq, hRp, Rng.av, Ear.av, length_pw, hget_pw0, hget_pw, hset_pw0, hset_pw, t1, t2, f1, hAl, hBl, hCl]
        refine ARun.forG (Try.envOK 236 Try.ord10 fs22 fs22_ok) A1.length (fun _ => True) (fun i => [(23, .int .i64 i)]) (fun _ _ => pw τ r s5 ++ [.cells [.int .i64 k, .int .i64 a, .int .i64 b, .int .i64 s, .int .i64 v1, .int .i64 v2], .cells [.int .i64 sl, .list .no 2 (ts.map Rng.av), .list .no 6 (rs2.map Rd.av)], .cells [.int .i64 u, .list .no 2 (ts.map Rng.av), .list .no 6 (rs.map Rd.av)]]) [] (by kernel_rfl) (by kernel_rfl) rfl (by simp [upd, ins, subF, lookA]) trivial ?_ ?_
        · intro K Q' hK i j hi _ ih
          have hAi : idx (A1.map Rng.av) (i : Int) = some A1[i].av := by rw [idx_nat hi]
          have hBi : idx (B1.map Rng.av) (i : Int) = some B1[i].av := by rw [idx_nat (by omega)]
          have hdi : decide (A1[i].lo ≤ B1[i].lo ∧ B1[i].hi ≤ A1[i].hi) = true := decide_eq_true (hAB i hi (by omega))
          have hCi : idx (C1.map Rng.av) (i : Int) = some C1[i].av := by rw [idx_nat (by omega)]
          have hei : decide (A1[i].lo ≤ C1[i].lo ∧ C1[i].hi ≤ A1[i].hi) = true := decide_eq_true (hAC i hi (by omega))
          generalize A1[i] = pa at hAi hdi hei
          generalize B1[i] = pb at hBi hdi
          generalize C1[i] = pc at hCi hei
          simp -implicitDefEqProofs (maxSteps := 2000000) (disch := omega) only [go_sem, reduceCtorEq, Nat.reduceAdd, Nat.reduceSub, Nat.reduceMul, Nat.reduceLT, Nat.reduceLeDiff, Nat.reduceEqDiff, Nat.reduceBEq, Int.reduceToNat, Int.reduceLT, Int.reduceLE, Int.reduceEq, Int.reduceNeg, Int.reduceAdd, Int.reduceSub, Int.reduceMul, ↓reduceIte, Int.reduceBEq, Int.reduceBNe, hRq, hRp, Rng.av, Ear.av, length_pw, hget_pw0, hget_pw, hset_pw0, hset_pw, hAl, hBl, hAi, hBi, hdi, hCl, hCi, hei]
          exact (ih trivial []).castS rfl (by simp [upd, ins, subF, lookA])
        · intro j _
          simp -implicitDefEqProofs (maxSteps := 2000000) (disch := omega) only [go_sem, reduceCtorEq, Nat.reduceAdd, Nat.reduceSub, Nat.reduceMul, Nat.reduceLT, Nat.reduceLeDiff, Nat.reduceEqDiff, Nat.reduceBEq, Int.reduceToNat, Int.reduceLT, Int.reduceLE, Int.reduceEq, Int.reduceNeg, Int.reduceAdd, Int.reduceSub, Int.reduceMul, ↓reduceIte, Int.reduceBEq, Int.reduceBNe, hRq, hRp, Rng.av, Ear.av, length_pw, hget_pw0, hget_pw, hset_pw0, hset_pw, hAl, hBl]
  · have hc4 : ¬ (w < (T2.length : Int)) := by have := l4 hk2; omega
    simp -implicitDefEqProofs (maxSteps := 2000000) (disch := omega) only [go_sem, reduceCtorEq, Nat.reduceAdd, Nat.reduceSub, Nat.reduceMul, Nat.reduceLT, Nat.reduceLeDiff, Nat.reduceEqDiff, Nat.reduceBEq, Int.reduceToNat, Int.reduceLT, Int.reduceLE, Int.reduceEq, Int.reduceNeg, Int.reduceAdd, Int.reduceSub, Int.reduceMul, ↓reduceIte, Int.reduceBEq, Int.reduceBNe, hRq, Rng.av, Ear.av, wi, n1, n2, wo, hr2, hc1, hc2, hc3, hc4]
    clear wi n1 n2 wo l1 l2 l3 l4 hc1 hc2 hc3 hc4
    as_aux_lemma =>
      refine within_c r 0 sl (by omega) (by omega) _ hpt.app _ fun s5 u hu1 hu2 => ?_
      rw [pw_app hrl]
      have hus : 0 ≤ u ∧ u ≤ sl := by omega
      obtain ⟨A1, hA1⟩ : ∃ y, ((List.range ts.length).map fun (i : Nat) => spanL (fun t => tg t i) L1) = y := ⟨_, rfl⟩
      obtain ⟨B1, hB1⟩ : ∃ y, ((List.range ts.length).map fun (i : Nat) => spanL (fun t => tg t i) T2) = y := ⟨_, rfl⟩
      have hAl : A1.length = ts.length := by rw [← hA1]; simp
      have hBl : B1.length = ts.length := by rw [← hB1]; simp
      have hAB : ∀ i (h : i < A1.length) (h' : i < B1.length), A1[i].lo ≤ B1[i].lo ∧ B1[i].hi ≤ A1[i].hi := by
        intro i h h'
        subst hA1 hB1
        simp only [List.getElem_map, List.getElem_range]
        exact t3 _
      rw [hA1] at t1
      rw [hB1] at t2
      rcases f u hus.1 hus.2 with f1 | ⟨f1, f2⟩ <;> clear f
      · simp -implicitDefEqProofs (maxSteps := 2000000) (disch := omega) only [go_sem, reduceCtorEq, Nat.reduceAdd, Nat.reduceSub, Nat.reduceMul, Nat.reduceLT, Nat.reduceLeDiff, Nat.reduceEqDiff, Nat.reduceBEq, Int.reduceToNat, Int.reduceLT, Int.reduceLE, Int.reduceEq, Int.reduceNeg, Int.reduceAdd, Int.reduceSub, Int.reduceMul, ↓reduceIte, Int.reduceBEq, Int.reduceBNe, hRq, hRp, Rng.av, Ear.av, length_pw, hget_pw0, hget_pw, hset_pw0, hset_pw, t1, t2, f1, hAl, hBl]
        refine ARun.forG (Try.envOK 236 Try.ord10 fs22 fs22_ok) A1.length (fun _ => True) (fun i => [(23, .int .i64 i)]) (fun _ _ => pw τ r s5 ++ [.cells [.int .i64 k, .int .i64 a, .int .i64 b, .int .i64 s, .int .i64 v1, .int .i64 v2], .cells [.int .i64 sl, .list .no 2 (ts.map Rng.av), .list .no 6 (rs2.map Rd.av)], .cells [.int .i64 u, .list .no 2 (ts.map Rng.av), .list .no 6 (rs.map Rd.av)]]) [] (by kernel_rfl) (by kernel_rfl) rfl (by simp [upd, ins, subF, lookA]) trivial ?_ ?_
        · intro K Q' hK i j hi _ ih
          have hAi : idx (A1.map Rng.av) (i : Int) = some A1[i].av := by rw [idx_nat hi]
          have hBi : idx (B1.map Rng.av) (i : Int) = some B1[i].av := by rw [idx_nat (by omega)]
          have hdi : decide (A1[i].lo ≤ B1[i].lo ∧ B1[i].hi ≤ A1[i].hi) = true := decide_eq_true (hAB i hi (by omega))
          generalize A1[i] = pa at hAi hdi
          generalize B1[i] = pb at hBi hdi
          simp -implicitDefEqProofs (maxSteps := 2000000) (disch := omega) only [go_sem, reduceCtorEq, Nat.reduceAdd, Nat.reduceSub, Nat.reduceMul, Nat.reduceLT, Nat.reduceLeDiff, Nat.reduceEqDiff, Nat.reduceBEq, Int.reduceToNat, Int.reduceLT, Int.reduceLE, Int.reduceEq, Int.reduceNeg, Int.reduceAdd, Int.reduceSub, Int.reduceMul, ↓reduceIte, Int.reduceBEq, Int.reduceBNe, hRq, hRp, Rng.av, Ear.av, length_pw, hget_pw0, hget_pw, hset_pw0, hset_pw, hAl, hBl, hAi, hBi, hdi]
          exact (ih trivial []).castS rfl (by simp [upd, ins, subF, lookA])
        · intro j _
          simp -implicitDefEqProofs (maxSteps := 2000000) (disch := omega) only [go_sem, reduceCtorEq, Nat.reduceAdd, Nat.reduceSub, Nat.reduceMul, Nat.reduceLT, Nat.reduceLeDiff, Nat.reduceEqDiff, Nat.reduceBEq, Int.reduceToNat, Int.reduceLT, Int.reduceLE, Int.reduceEq, Int.reduceNeg, Int.reduceAdd, Int.reduceSub, Int.reduceMul, ↓reduceIte, Int.reduceBEq, Int.reduceBNe, hRq, hRp, Rng.av, Ear.av, length_pw, hget_pw0, hget_pw, hset_pw0, hset_pw, hAl, hBl]
      · obtain ⟨C1, hC1⟩ : ∃ y, ((List.range ts.length).map fun (i : Nat) => spanL (fun t => tg t i) (truthsL ⟨u, ts, rs⟩)) = y := ⟨_, rfl⟩
        have hCl : C1.length = ts.length := by rw [← hC1]; simp
        have hAC : ∀ i (h : i < A1.length) (h' : i < C1.length), A1[i].lo ≤ C1[i].lo ∧ C1[i].hi ≤ A1[i].hi := by
          intro i h h'
          subst hA1 hC1
          simp only [List.getElem_map, List.getElem_range]
          exact f2 _
        rw [hC1] at f1
        simp -implicitDefEqProofs (maxSteps := 2000000) (disch := omega) only [go_sem, reduceCtorEq, Nat.reduceAdd, Nat.reduceSub, Nat.reduceMul, Nat.reduceLT, Nat.reduceLeDiff, Nat.reduceEqDiff, Nat.reduceBEq, Int.reduceToNat, Int.reduceLT, Int.reduceLE, Int.reduceEq, Int.reduceNeg, Int.reduceAdd, Int.reduceSub, Int.reduceMul, ↓reduceIte, Int.reduceBEq, Int.reduceBNe, hRq, hRp, Rng.av, Ear.av, length_pw, hget_pw0, hget_pw, hset_pw0, hset_pw, t1, t2, f1, hAl, hBl, hCl]
        refine ARun.forG (Try.envOK 236 Try.ord10 fs22 fs22_ok) A1.length (fun _ => True) (fun i => [(23, .int .i64 i)]) (fun _ _ => pw τ r s5 ++ [.cells [.int .i64 k, .int .i64 a, .int .i64 b, .int .i64 s, .int .i64 v1, .int .i64 v2], .cells [.int .i64 sl, .list .no 2 (ts.map Rng.av), .list .no 6 (rs2.map Rd.av)], .cells [.int .i64 u, .list .no 2 (ts.map Rng.av), .list .no 6 (rs.map Rd.av)]]) [] (by kernel_rfl) (by kernel_rfl) rfl (by simp [upd, ins, subF, lookA]) trivial ?_ ?_
        · intro K Q' hK i j hi _ ih
          have hAi : idx (A1.map Rng.av) (i : Int) = some A1[i].av := by rw [idx_nat hi]
          have hBi : idx (B1.map Rng.av) (i : Int) = some B1[i].av := by rw [idx_nat (by omega)]
          have hdi : decide (A1[i].lo ≤ B1[i].lo ∧ B1[i].hi ≤ A1[i].hi) = true := decide_eq_true (hAB i hi (by omega))
          have hCi : idx (C1.map Rng.av) (i : Int) = some C1[i].av := by rw [idx_nat (by omega)]
          have hei : decide (A1[i].lo ≤ C1[i].lo ∧ C1[i].hi ≤ A1[i].hi) = true := decide_eq_true (hAC i hi (by omega))
          generalize A1[i] = pa at hAi hdi hei
          generalize B1[i] = pb at hBi hdi
          generalize C1[i] = pc at hCi hei
          simp -implicitDefEqProofs (maxSteps := 2000000) (disch := omega) only [go_sem, reduceCtorEq, Nat.reduceAdd, Nat.reduceSub, Nat.reduceMul, Nat.reduceLT, Nat.reduceLeDiff, Nat.reduceEqDiff, Nat.reduceBEq, Int.reduceToNat, Int.reduceLT, Int.reduceLE, Int.reduceEq, Int.reduceNeg, Int.reduceAdd, Int.reduceSub, Int.reduceMul, ↓reduceIte, Int.reduceBEq, Int.reduceBNe, hRq, hRp, Rng.av, Ear.av, length_pw, hget_pw0, hget_pw, hset_pw0, hset_pw, hAl, hBl, hAi, hBi, hdi, hCl, hCi, hei]
          exact (ih trivial []).castS rfl (by simp [upd, ins, subF, lookA])
        · intro j _
          simp -implicitDefEqProofs (maxSteps := 2000000) (disch := omega) only [go_sem, reduceCtorEq, Nat.reduceAdd, Nat.reduceSub, Nat.reduceMul, Nat.reduceLT, Nat.reduceLeDiff, Nat.reduceEqDiff, Nat.reduceBEq, Int.reduceToNat, Int.reduceLT, Int.reduceLE, Int.reduceEq, Int.reduceNeg, Int.reduceAdd, Int.reduceSub, Int.reduceMul, ↓reduceIte, Int.reduceBEq, Int.reduceBNe, hRq, hRp, Rng.av, Ear.av, length_pw, hget_pw0, hget_pw, hset_pw0, hset_pw, hAl, hBl]
end Go.Proofs
