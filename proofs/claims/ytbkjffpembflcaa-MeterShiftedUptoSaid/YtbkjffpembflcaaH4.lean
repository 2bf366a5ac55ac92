/- Texts of a proof: lemmas. -/
import Derived.Test.YtbkjffpembflcaaHA
import Derived.Test.YtbkjffpembflcaaMV
set_option linter.unusedSimpArgs false
set_option linter.unusedVariables false
set_option maxRecDepth 100000
namespace Go.Proofs
open Go Go.Mu

theorem keptL_succ {rs : List Rd} {i : Nat} (h : i < rs.length) : keptL (rs.take (i + 1)) = keptL (rs.take i) ++ (if rs[i].kind = 1 then [] else [rs[i]]) := by
  unfold keptL
  rw [List.take_succ_eq_append_getElem h, List.filter_append]
  congr 1
  rw [List.filter_cons, List.filter_nil]
  by_cases hk : rs[i].kind = 1
  · simp [hk]
  · simp [hk]
set_option maxHeartbeats 8000000 in
theorem meterShifted_c (nums : List Int) (hl : nums.length ≤ 4294967296) (σ : List AObj) : ACalls Try.prog 7 [.list .no 1 (nums.map (.int .i64))] σ (fun v _ => v = .bool true) := by
  refine ACalls.of_ev (E := Try.E 278 Try.ord7 fs21) (Try.envOK 278 Try.ord7 fs21 fs21_ok) Try.kp7 Try.func7 rfl (by kernel_rfl) (by simp [Try.E]) (Callable.of Try.func7 (by kernel_rfl) (by kernel_rfl)) (by kernel_rfl) ?_
  simp -implicitDefEqProofs (maxSteps := 2000000) (disch := omega) only [go_sem, reduceCtorEq, Nat.reduceAdd, Nat.reduceSub, Nat.reduceMul, Nat.reduceLT, Nat.reduceLeDiff, Nat.reduceEqDiff, Nat.reduceBEq, Int.reduceToNat, Int.reduceLT, Int.reduceLE, Int.reduceEq, Int.reduceNeg, Int.reduceAdd, Int.reduceSub, Int.reduceMul, ↓reduceIte, Int.reduceBEq, Int.reduceBNe]
  refine newPot_c nums .no hl _ _ fun s0 junk0 => ?_
  have hp : PotAt (σ ++ (.cells [.int .u64 s0] :: junk0)) σ.length := ⟨s0, by rw [hget_at0]; rfl⟩
  generalize σ ++ (.cells [.int .u64 s0] :: junk0) = σ1 at hp ⊢
  generalize σ.length = r at hp ⊢
  simp -implicitDefEqProofs (maxSteps := 2000000) (disch := omega) only [go_sem, reduceCtorEq, Nat.reduceAdd, Nat.reduceSub, Nat.reduceMul, Nat.reduceLT, Nat.reduceLeDiff, Nat.reduceEqDiff, Nat.reduceBEq, Int.reduceToNat, Int.reduceLT, Int.reduceLE, Int.reduceEq, Int.reduceNeg, Int.reduceAdd, Int.reduceSub, Int.reduceMul, ↓reduceIte, Int.reduceBEq, Int.reduceBNe]
  refine earOf_c r 3 5 4 (by omega) (by omega) (by omega) _ hp _ fun s1 e T junk1 hE => ?_
  replace hp : PotAt (pw σ1 r s1 ++ junk1) r := (hp.pw s1).app
  generalize pw σ1 r s1 ++ junk1 = σ2 at hp ⊢
  clear junk0 junk1
  have hr := hp.lt
  have hck := hE.ck
  have hkn := hE.known.2
  have hsh := fun c hc => shiftP hE (by omega) (c := c) hc
  have hts := (okE_of_ck hck).len
  have htl : 1 ≤ e.tones.length := by rw [hE.len]; exact hE.lo
  have hrn : e.rds.length ≤ 6 := by simp only [ck] at hck; grind
  have hTl : T.length = e.tones.length := hE.len.symm
  have htn := (okE_of_ck hck).tone
  clear hE
  obtain ⟨sl, ts, rs⟩ := e
  simp only at hts htl hrn hTl htn
  simp only [Ear.av]
  simp -implicitDefEqProofs (maxSteps := 2000000) (disch := omega) only [go_sem, reduceCtorEq, Nat.reduceAdd, Nat.reduceSub, Nat.reduceMul, Nat.reduceLT, Nat.reduceLeDiff, Nat.reduceEqDiff, Nat.reduceBEq, Int.reduceToNat, Int.reduceLT, Int.reduceLE, Int.reduceEq, Int.reduceNeg, Int.reduceAdd, Int.reduceSub, Int.reduceMul, ↓reduceIte, Int.reduceBEq, Int.reduceBNe]
  refine ARun.ghost 6 6 (sz0 := 0) rfl (by simp [lookA]) ?_
  simp only [ins, ↓reduceIte, List.append_assoc, List.cons_append, List.nil_append, List.length_append, List.length_cons, List.length_nil, Nat.zero_add, Nat.reduceEqDiff, Nat.reduceAdd]
  refine ARun.forG (Try.envOK 278 Try.ord7 fs21 fs21_ok) rs.length (fun _ => True) (fun i => [(6, .list (.own (σ2.length + 1)) 6 ((keptL (rs.take i)).map Rd.av)), (7, .int .i64 i)]) (fun i j => σ2 ++ (.cells [.int .i64 sl, .list .no 2 (ts.map Rng.av), .list .no 6 (rs.map Rd.av)] :: .tail (keptL (rs.take i)).length 6 :: j)) [] (by kernel_rfl) (by kernel_rfl) (by simp [keptL]) (by simp [upd, ins, subF, lookA, keptL]) trivial ?_ ?_
  · intro K Q' hK i j hi _ ih
    have hri : idx (rs.map Rd.av) (i : Int) = some rs[i].av := by rw [idx_nat hi]
    have hkl : (keptL (rs.take i)).length ≤ 6 := by
      refine Nat.le_trans (List.length_filter_le _ _) ?_
      rw [List.length_take]; omega
    rw [keptL_succ hi] at ih
    clear hsh hkn hck htn
    generalize keptL (rs.take i) = B at hkl ih ⊢
    generalize rs[i] = y at hri ih
    obtain ⟨k1, k2, k3, k4, ⟨k5, k6⟩⟩ := y
    simp only [Rd.av] at hri
    simp only at ih
    by_cases hk : k1 = 1
    · rw [if_pos hk, List.append_nil] at ih
      simp -implicitDefEqProofs (maxSteps := 2000000) (disch := omega) only [go_sem, reduceCtorEq, Nat.reduceAdd, Nat.reduceSub, Nat.reduceMul, Nat.reduceLT, Nat.reduceLeDiff, Nat.reduceEqDiff, Nat.reduceBEq, Int.reduceToNat, Int.reduceLT, Int.reduceLE, Int.reduceEq, Int.reduceNeg, Int.reduceAdd, Int.reduceSub, Int.reduceMul, ↓reduceIte, Int.reduceBEq, Int.reduceBNe, hri]
      exact (ih trivial j).castS rfl (by simp [upd, ins, subF, lookA])
    · rw [if_neg hk] at ih
      simp -implicitDefEqProofs (maxSteps := 2000000) (disch := omega) only [go_sem, reduceCtorEq, Nat.reduceAdd, Nat.reduceSub, Nat.reduceMul, Nat.reduceLT, Nat.reduceLeDiff, Nat.reduceEqDiff, Nat.reduceBEq, Int.reduceToNat, Int.reduceLT, Int.reduceLE, Int.reduceEq, Int.reduceNeg, Int.reduceAdd, Int.reduceSub, Int.reduceMul, ↓reduceIte, Int.reduceBEq, Int.reduceBNe, hri]
      exact (ih trivial j).castS (by simp [Rd.av]) (by simp [upd, ins, subF, lookA, Rd.av])
  · intro j _
    rw [List.take_length]
    have hkl : (keptL rs).length ≤ 6 := Nat.le_trans (List.length_filter_le _ _) hrn
    simp -implicitDefEqProofs (maxSteps := 2000000) (disch := omega) only [go_sem, reduceCtorEq, Nat.reduceAdd, Nat.reduceSub, Nat.reduceMul, Nat.reduceLT, Nat.reduceLeDiff, Nat.reduceEqDiff, Nat.reduceBEq, Int.reduceToNat, Int.reduceLT, Int.reduceLE, Int.reduceEq, Int.reduceNeg, Int.reduceAdd, Int.reduceSub, Int.reduceMul, ↓reduceIte, Int.reduceBEq, Int.reduceBNe]
    refine mix_c r ts.length ⟨htl, hts⟩ _ hp.app _ fun s3 P junk3 hP => ?_
    rw [pw_app hr]
    simp only [List.append_assoc, List.cons_append, List.nil_append]
    simp -implicitDefEqProofs (maxSteps := 2000000) (disch := omega) only [go_sem, reduceCtorEq, Nat.reduceAdd, Nat.reduceSub, Nat.reduceMul, Nat.reduceLT, Nat.reduceLeDiff, Nat.reduceEqDiff, Nat.reduceBEq, Int.reduceToNat, Int.reduceLT, Int.reduceLE, Int.reduceEq, Int.reduceNeg, Int.reduceAdd, Int.reduceSub, Int.reduceMul, ↓reduceIte, Int.reduceBEq, Int.reduceBNe, length_pw, hget_pw0, hget_pw, hset_pw0, hset_pw]
    refine copyEarV_c ⟨sl, ts, rs⟩ (by simp only; omega) (by simp only; omega) _ _ fun x1 x2 => ?_
    simp only [List.append_assoc, List.cons_append, List.nil_append, List.length_append, List.length_cons, List.length_nil, Nat.zero_add, Nat.reduceAdd, Nat.add_assoc]
    simp -implicitDefEqProofs (maxSteps := 2000000) (disch := omega) only [go_sem, reduceCtorEq, Nat.reduceAdd, Nat.reduceSub, Nat.reduceMul, Nat.reduceLT, Nat.reduceLeDiff, Nat.reduceEqDiff, Nat.reduceBEq, Int.reduceToNat, Int.reduceLT, Int.reduceLE, Int.reduceEq, Int.reduceNeg, Int.reduceAdd, Int.reduceSub, Int.reduceMul, ↓reduceIte, Int.reduceBEq, Int.reduceBNe, length_pw, hget_pw0, hget_pw, hset_pw0, hset_pw]
    have hA : pw σ2 r s3 ++ AObj.cells [.int .i64 sl, .list .no 2 (ts.map Rng.av), .list .no 6 (rs.map Rd.av)] :: AObj.tail (keptL rs).length 6 :: (j ++ (junk3 ++ [x1, x2, .vec 2 (ts.map Rng.av), .vec 6 (rs.map Rd.av), .cells [.int .i64 sl, .vec (σ2.length + (j.length + (junk3.length + 4))) ts.length, .vec (σ2.length + (j.length + (junk3.length + 5))) rs.length]]))
      = (pw σ2 r s3 ++ AObj.cells [.int .i64 sl, .list .no 2 (ts.map Rng.av), .list .no 6 (rs.map Rd.av)] :: AObj.tail (keptL rs).length 6 :: (j ++ (junk3 ++ [x1, x2]))) ++ [.vec 2 (ts.map Rng.av), .vec 6 (rs.map Rd.av), .cells [.int .i64 sl, .vec (σ2.length + (j.length + (junk3.length + 4))) ts.length, .vec (σ2.length + (j.length + (junk3.length + 5))) rs.length]] := by simp
    rw [hA]
    clear hA
    have h4 : hget (pw σ2 r s3 ++ AObj.cells [.int .i64 sl, .list .no 2 (ts.map Rng.av), .list .no 6 (rs.map Rd.av)] :: AObj.tail (keptL rs).length 6 :: (j ++ (junk3 ++ [x1, x2]))) σ2.length = some (.cells [.int .i64 sl, .list .no 2 (ts.map Rng.av), .list .no 6 (rs.map Rd.av)]) := by rw [hget_pw0]; rfl
    have hpA : PotAt (pw σ2 r s3 ++ AObj.cells [.int .i64 sl, .list .no 2 (ts.map Rng.av), .list .no 6 (rs.map Rd.av)] :: AObj.tail (keptL rs).length 6 :: (j ++ (junk3 ++ [x1, x2]))) r := (hp.pw _).app
    have hAl : (pw σ2 r s3 ++ AObj.cells [.int .i64 sl, .list .no 2 (ts.map Rng.av), .list .no 6 (rs.map Rd.av)] :: AObj.tail (keptL rs).length 6 :: (j ++ (junk3 ++ [x1, x2]))).length = σ2.length + (j.length + (junk3.length + 4)) := by simp [length_pw]; omega
    have hR4 : σ2.length ≠ r := by omega
    generalize pw σ2 r s3 ++ AObj.cells [.int .i64 sl, .list .no 2 (ts.map Rng.av), .list .no 6 (rs.map Rd.av)] :: AObj.tail (keptL rs).length 6 :: (j ++ (junk3 ++ [x1, x2])) = A0 at h4 hpA hAl ⊢
    rw [show σ2.length + (j.length + (junk3.length + 4) + 1 + 1) = A0.length + 2 by omega, show σ2.length + (j.length + (junk3.length + 5)) = A0.length + 1 by omega, ← hAl]
    refine ARun.slotPlain 6 (t := .own (σ2.length + 1)) (sz := 6) (xs := (keptL rs).map Rd.av) rfl (by simp [lookA]) ?_
    simp only [ins, ↓reduceIte, Nat.reduceEqDiff]
    clear hp hr hAl
    generalize σ2.length = R4 at h4 hR4 ⊢
    obtain ⟨Q, hPQ⟩ := perm_inv _ hts P hP
    have hPl := hPQ.lp
    have h4q : ∀ l, hget (A0 ++ l) R4 = some (.cells [.int .i64 sl, .list .no 2 (ts.map Rng.av), .list .no 6 (rs.map Rd.av)]) := fun l => by rw [hget_app (hget_lt h4)]; exact h4
    refine ARun.loopA (α := Nat × List Rng) (fun a => ts.length - a.1) (fun a τ => τ = A0 ++ [.vec 2 (a.2.map Rng.av), .vec 6 (rs.map Rd.av), .cells [.int .i64 sl, .vec A0.length ts.length, .vec (A0.length + 1) rs.length]] ∧ a.1 ≤ ts.length ∧ a.2.length = ts.length ∧ ∀ i : Nat, i < a.1 → a.2.getD (tg P i).toNat default = ts.getD i default) (fun a => [(10, .int .i64 a.1)]) (0, ts) (by simp [upd, ins, subF, lookA]) ⟨rfl, by simp, rfl, fun i hi => absurd hi (by simp)⟩ ?_
    rintro ⟨i, X⟩ τ ⟨rfl, hi, hX, hXP⟩ ih
    simp only at hi hX hXP ih ⊢
    by_cases hlt : i < ts.length
    · obtain ⟨p1, p2, p3⟩ := hPQ.p i hlt
      have hPi : idx (P.map (AV.int .i64)) (i : Int) = some (.int .i64 (tg P i)) := idx_tg (by omega) (by omega)
      have hti : idx (ts.map Rng.av) (i : Int) = some ts[i].av := by rw [idx_nat hlt]
      have hXi : (X.map Rng.av)[(tg P i).toNat]? = some (X[(tg P i).toNat]'(by omega)).av := by simp [List.getElem?_eq_getElem (show (tg P i).toNat < X.length by omega)]
      have hinj : ∀ k : Nat, k < i → tg P k ≠ tg P i := fun k hk e => by have := (hPQ.p k (by omega)).2.2; rw [e, p3] at this; omega
      have hpos : ∀ k : Nat, k < i → 0 ≤ tg P k ∧ tg P k < ts.length := fun k hk => ⟨(hPQ.p k (by omega)).1, (hPQ.p k (by omega)).2.1⟩
      have htd : ts.getD i default = ts[i] := getD_eq hlt
      have hnext : ∀ k : Nat, k < i + 1 → (X.set (tg P i).toNat ts[i]).getD (tg P k).toNat default = ts.getD k default := fun k hk => by
        by_cases hki : k = i
        · subst hki
          rw [htd]
          simp [List.getD, List.getElem?_set_self (show (tg P k).toNat < X.length by omega)]
        · have h1 := hinj k (by omega)
          have h2 := hpos k (by omega)
          rw [← hXP k (by omega)]
          simp only [List.getD]
          rw [List.getElem?_set_ne (by omega)]
      generalize X[(tg P i).toNat]'(by omega) = z at hXi
      obtain ⟨z1, z2⟩ := z
      have hset : ∀ y : Rng, (X.map Rng.av).set (tg P i).toNat y.av = (X.set (tg P i).toNat y).map Rng.av := fun y => by rw [List.map_set]
      generalize ts[i] = y at hti hnext
      obtain ⟨y1, y2⟩ := y
      have hset := hset ⟨y1, y2⟩
      clear hinj hpos htd hXP hPQ
      generalize tg P i = pi at hPi hXi p1 p2 p3 hnext hset
      simp only [Rng.av] at hti hXi hset
      refine ev_sound (Try.envOK 278 Try.ord7 fs21 fs21_ok) (n := 1000) (by kernel_rfl) ?_
      simp -implicitDefEqProofs (maxSteps := 2000000) (disch := omega) only [go_sem, reduceCtorEq, Nat.reduceAdd, Nat.reduceSub, Nat.reduceMul, Nat.reduceLT, Nat.reduceLeDiff, Nat.reduceEqDiff, Nat.reduceBEq, Int.reduceToNat, Int.reduceLT, Int.reduceLE, Int.reduceEq, Int.reduceNeg, Int.reduceAdd, Int.reduceSub, Int.reduceMul, ↓reduceIte, Int.reduceBEq, Int.reduceBNe, h4q, hPi, hti, hXi, hX, hset]
      exact (ih (i + 1, X.set pi.toNat ⟨y1, y2⟩) _ (by simp only; omega) ⟨rfl, by simp only; omega, by simpa using hX, hnext⟩).castS rfl (by simp [upd, ins, subF, lookA])
    · have hie : i = ts.length := by omega
      subst hie
      clear ih hlt hi
      refine ev_sound (Try.envOK 278 Try.ord7 fs21 fs21_ok) (n := 1000) (by kernel_rfl) ?_
      simp -implicitDefEqProofs (maxSteps := 2000000) (disch := omega) only [go_sem, reduceCtorEq, Nat.reduceAdd, Nat.reduceSub, Nat.reduceMul, Nat.reduceLT, Nat.reduceLeDiff, Nat.reduceEqDiff, Nat.reduceBEq, Int.reduceToNat, Int.reduceLT, Int.reduceLE, Int.reduceEq, Int.reduceNeg, Int.reduceAdd, Int.reduceSub, Int.reduceMul, ↓reduceIte, Int.reduceBEq, Int.reduceBNe, h4q, hPl]
      have hrd : ∀ r ∈ rs, (0 ≤ r.a ∧ r.a < ts.length) ∧ (r.kind ≠ 1 → 0 ≤ r.b ∧ r.b < ts.length) := fun r hr => rd_idx hck hr
      refine ARun.loopA (α := Nat × List Rd) (fun a => rs.length - a.1) (fun a τ => τ = A0 ++ [.vec 2 (X.map Rng.av), .vec 6 (a.2.map Rd.av), .cells [.int .i64 sl, .vec A0.length ts.length, .vec (A0.length + 1) rs.length]] ∧ a.1 ≤ rs.length ∧ a.2.length = rs.length ∧ (∀ i : Nat, i < a.1 → a.2[i]? = (rs[i]?).map (permR P)) ∧ (∀ i : Nat, a.1 ≤ i → a.2[i]? = rs[i]?)) (fun a => [(11, .int .i64 a.1)]) (0, rs) (by simp [upd, ins, subF, lookA]) ⟨rfl, by simp, rfl, fun i hi => absurd hi (by simp), fun i _ => rfl⟩ ?_
      rintro ⟨i, Y⟩ τ ⟨rfl, hi, hY, hY1, hY2⟩ ih
      simp only at hi hY hY1 hY2 ih ⊢
      by_cases hlt : i < rs.length
      · obtain ⟨i1, i2⟩ := hrd _ (List.getElem_mem hlt)
        have hyi : (Y.map Rd.av)[i]? = some rs[i].av := by rw [List.getElem?_map, hY2 i (Nat.le_refl _), List.getElem?_eq_getElem hlt]; rfl
        have hss : ∀ v, ((Y.map Rd.av).set i v)[i]? = some v := fun v => List.getElem?_set_self (by simp; omega)
        have hset : ∀ y : Rd, (Y.map Rd.av).set i y.av = (Y.set i y).map Rd.av := fun y => by rw [List.map_set]
        have hn1 : ∀ k : Nat, k < i + 1 → (Y.set i (permR P rs[i]))[k]? = (rs[k]?).map (permR P) := fun k hk => by
          by_cases hki : k = i
          · subst hki
            rw [List.getElem?_set_self (by omega), List.getElem?_eq_getElem hlt]; rfl
          · rw [List.getElem?_set_ne (by omega)]; exact hY1 k (by omega)
        have hn2 : ∀ k : Nat, i + 1 ≤ k → (Y.set i (permR P rs[i]))[k]? = rs[k]? := fun k hk => by
          rw [List.getElem?_set_ne (by omega)]; exact hY2 k (by omega)
        generalize rs[i] = y at i1 i2 hyi hn1 hn2
        obtain ⟨k1, k2, k3, k4, ⟨k5, k6⟩⟩ := y
        simp only at i1 i2
        have hPa : idx (P.map (AV.int .i64)) k2 = some (.int .i64 (tg P k2)) := idx_tg i1.1 (by omega)
        have hset := hset (permR P ⟨k1, k2, k3, k4, ⟨k5, k6⟩⟩)
        simp only [Rd.av] at hyi hset
        clear hY1 hY2 hXP hPQ
        refine ev_sound (Try.envOK 278 Try.ord7 fs21 fs21_ok) (n := 1000) (by kernel_rfl) ?_
        by_cases hk : k1 = 1
        · simp only [permR, if_pos hk] at hset hn1 hn2
          clear i1 i2
          simp -implicitDefEqProofs (maxSteps := 2000000) (disch := omega) only [go_sem, reduceCtorEq, Nat.reduceAdd, Nat.reduceSub, Nat.reduceMul, Nat.reduceLT, Nat.reduceLeDiff, Nat.reduceEqDiff, Nat.reduceBEq, Int.reduceToNat, Int.reduceLT, Int.reduceLE, Int.reduceEq, Int.reduceNeg, Int.reduceAdd, Int.reduceSub, Int.reduceMul, ↓reduceIte, Int.reduceBEq, Int.reduceBNe, hPa, hyi, hss, hY, List.length_set]

          exact (ih (i + 1, Y.set i ⟨k1, tg P k2, k3, k4, ⟨k5, k6⟩⟩) _ (by simp only; omega) ⟨rfl, by simp only; omega, by simpa using hY, hn1, hn2⟩).castS (by simp only [← hset]) (by simp [upd, ins, subF, lookA])
        · have hPb : idx (P.map (AV.int .i64)) k3 = some (.int .i64 (tg P k3)) := idx_tg (i2 hk).1 (by have := (i2 hk).2; omega)
          simp only [permR, if_neg hk] at hset hn1 hn2
          clear i1 i2
          simp -implicitDefEqProofs (maxSteps := 2000000) (disch := omega) only [go_sem, reduceCtorEq, Nat.reduceAdd, Nat.reduceSub, Nat.reduceMul, Nat.reduceLT, Nat.reduceLeDiff, Nat.reduceEqDiff, Nat.reduceBEq, Int.reduceToNat, Int.reduceLT, Int.reduceLE, Int.reduceEq, Int.reduceNeg, Int.reduceAdd, Int.reduceSub, Int.reduceMul, ↓reduceIte, Int.reduceBEq, Int.reduceBNe, hPa, hPb, hyi, hss, hY, List.set_set, List.length_set]
          exact (ih (i + 1, Y.set i ⟨k1, tg P k2, tg P k3, k4, ⟨k5, k6⟩⟩) _ (by simp only; omega) ⟨rfl, by simp only; omega, by simpa using hY, hn1, hn2⟩).castS (by simp only [← hset]) (by simp [upd, ins, subF, lookA])
      · have hie : i = rs.length := by omega
        subst hie
        clear ih hlt hi hY2
        have hYe : Y = rs.map (permR P) := by
          apply List.ext_getElem?
          intro k
          rw [List.getElem?_map]
          by_cases hk : k < rs.length
          · exact hY1 k hk
          · rw [List.getElem?_eq_none (by omega), List.getElem?_eq_none (by omega)]; rfl
        have hE' : PermE P ⟨sl, ts, rs⟩ ⟨sl, X, Y⟩ := ⟨rfl, hX, fun k hk => hXP k hk, hYe⟩
        obtain ⟨A, B, hO⟩ := orderP hck hkn hPQ hE'
        have hOa := hO.a
        have hOb := hO.b
        have hOA := hO.la
        have hOB := hO.lb
        have hOe := hO.eq
        simp only at hOA hOB hOe
        clear hO hE' hYe hXP hY1 hrd
        refine ev_sound (Try.envOK 278 Try.ord7 fs21 fs21_ok) (n := 1000) (by kernel_rfl) ?_
        simp -implicitDefEqProofs (maxSteps := 2000000) (disch := omega) only [go_sem, reduceCtorEq, Nat.reduceAdd, Nat.reduceSub, Nat.reduceMul, Nat.reduceLT, Nat.reduceLeDiff, Nat.reduceEqDiff, Nat.reduceBEq, Int.reduceToNat, Int.reduceLT, Int.reduceLE, Int.reduceEq, Int.reduceNeg, Int.reduceAdd, Int.reduceSub, Int.reduceMul, ↓reduceIte, Int.reduceBEq, Int.reduceBNe, h4q, hPl, hOa]
        refine ACalls.freezeA (A0.length + 2) 1 (xs := X.map Rng.av) (by rw [hget_at]; rfl) rfl (by rw [hget_at0]; rfl) (by simpa using hX) ?_
        simp only [hset_at0, hset_at, List.set_cons_succ, List.set_cons_zero]
        refine ACalls.freezeA (A0.length + 2) 2 (xs := Y.map Rd.av) (by rw [hget_at]; rfl) rfl (by rw [hget_at]; rfl) (by simpa using hY) ?_
        simp only [hset_at0, hset_at, List.set_cons_succ, List.set_cons_zero]
        refine PureV.weaken (l' := [(⟨sl, X, Y⟩ : Ear).av]) (by simp [wkL, wk, wk1, wk0, Ear.av]) (tones_p ⟨sl, X, Y⟩ (by simp only; omega) (by simp only; omega)) _ _ ?_
        rw [hOb]
        simp -implicitDefEqProofs (maxSteps := 2000000) (disch := omega) only [go_sem, reduceCtorEq, Nat.reduceAdd, Nat.reduceSub, Nat.reduceMul, Nat.reduceLT, Nat.reduceLeDiff, Nat.reduceEqDiff, Nat.reduceBEq, Int.reduceToNat, Int.reduceLT, Int.reduceLE, Int.reduceEq, Int.reduceNeg, Int.reduceAdd, Int.reduceSub, Int.reduceMul, ↓reduceIte, Int.reduceBEq, Int.reduceBNe, h4q, hPl, hOa, hOA, hOB]
        clear hOa hOb hX hY
        generalize AObj.cells [.int .i64 sl, .list .no 2 (X.map Rng.av), .list .no 6 (Y.map Rd.av)] = c0
        refine ARun.forG (Try.envOK 278 Try.ord7 fs21 fs21_ok) ts.length (fun _ => True) (fun i => [(17, .int .i64 i)]) (fun _ _ => A0 ++ [.dead, .dead, c0]) [] (by kernel_rfl) (by kernel_rfl) rfl (by simp [upd, ins, subF, lookA]) trivial ?_ ?_
        · intro K Q' hK i j2 hi _ ih
          obtain ⟨p1, p2, p3⟩ := hPQ.p i hi
          have hPi : idx (P.map (AV.int .i64)) (i : Int) = some (.int .i64 (tg P i)) := idx_tg (by omega) (by omega)
          have hBi : idx (B.map Rng.av) (tg P i) = some (A.getD i default).av := by rw [idx_get p1 (by omega), hOe i hi]
          have hAi : idx (A.map Rng.av) (i : Int) = some (A.getD i default).av := by
            have := idx_get (f := Rng.av) (l := A) (x := (i : Int)) (by omega) (by omega)
            rw [this]; simp
          clear hOe hPQ hsh hkn hck htn hP
          generalize A.getD i default = z at hAi hBi
          obtain ⟨z1, z2⟩ := z
          generalize tg P i = pi at hPi hBi p1 p2 p3
          simp only [Rng.av] at hAi hBi
          simp -implicitDefEqProofs (maxSteps := 2000000) (disch := omega) only [go_sem, reduceCtorEq, Nat.reduceAdd, Nat.reduceSub, Nat.reduceMul, Nat.reduceLT, Nat.reduceLeDiff, Nat.reduceEqDiff, Nat.reduceBEq, Int.reduceToNat, Int.reduceLT, Int.reduceLE, Int.reduceEq, Int.reduceNeg, Int.reduceAdd, Int.reduceSub, Int.reduceMul, ↓reduceIte, Int.reduceBEq, Int.reduceBNe, hPi, hAi, hBi, hPl]
          exact (ih trivial j2).castS rfl (by simp [upd, ins, subF, lookA])
        · intro j2 _
          obtain ⟨A1, hA1⟩ : ∃ A1, hset A0 R4 (.cells [.int .i64 sl, .list .no 2 (ts.map Rng.av), .list .no 6 ((keptL rs).map Rd.av)]) = A1 := ⟨_, rfl⟩
          have hsA : ∀ l, hset (A0 ++ l) R4 (.cells [.int .i64 sl, .list .no 2 (ts.map Rng.av), .list .no 6 ((keptL rs).map Rd.av)]) = A1 ++ l := fun l => by
            rw [← hA1]; unfold hset; rw [List.set_append_left _ _ (hget_lt h4)]
          have h5 : hget A1 R4 = some (.cells [.int .i64 sl, .list .no 2 (ts.map Rng.av), .list .no 6 ((keptL rs).map Rd.av)]) := by rw [← hA1]; exact hget_set h4 _
          have hp1 : PotAt A1 r := by obtain ⟨s, hs⟩ := hpA; exact ⟨s, by rw [← hA1, hget_ne hR4]; exact hs⟩
          simp -implicitDefEqProofs (maxSteps := 2000000) (disch := omega) only [go_sem, reduceCtorEq, Nat.reduceAdd, Nat.reduceSub, Nat.reduceMul, Nat.reduceLT, Nat.reduceLeDiff, Nat.reduceEqDiff, Nat.reduceBEq, Int.reduceToNat, Int.reduceLT, Int.reduceLE, Int.reduceEq, Int.reduceNeg, Int.reduceAdd, Int.reduceSub, Int.reduceMul, ↓reduceIte, Int.reduceBEq, Int.reduceBNe, h4q, hPl, hsA]
          clear hsA hA1 hOe hOA hOB
          have hr1 := hp1.lt
          refine upto_c r 1000 (by omega) _ hp1.app _ fun s4 c hc1 hc2 => ?_
          rw [pw_app hr1]
          have hc : 0 ≤ c ∧ c ≤ 1000 := by omega
          clear hc1 hc2
          obtain ⟨A', N, hS⟩ := hsh c hc
          clear hsh
          have h6 : hget (pw A1 r s4) R4 = some (.cells [.int .i64 sl, .list .no 2 (ts.map Rng.av), .list .no 6 ((keptL rs).map Rd.av)]) := by unfold pw; rw [hget_ne (fun e => hR4 e.symm)]; exact h5
          generalize pw A1 r s4 = A2 at h6 ⊢
          clear h5 hp1 hr1 h4 h4q hpA hR4
          have h6q : ∀ l, hget (A2 ++ l) R4 = some (.cells [.int .i64 sl, .list .no 2 (ts.map Rng.av), .list .no 6 ((keptL rs).map Rd.av)]) := fun l => by rw [hget_app (hget_lt h6)]; exact h6
          have hkl : (keptL rs).length ≤ 6 := Nat.le_trans (List.length_filter_le _ _) hrn
          simp -implicitDefEqProofs (maxSteps := 2000000) (disch := omega) only [go_sem, reduceCtorEq, Nat.reduceAdd, Nat.reduceSub, Nat.reduceMul, Nat.reduceLT, Nat.reduceLeDiff, Nat.reduceEqDiff, Nat.reduceBEq, Int.reduceToNat, Int.reduceLT, Int.reduceLE, Int.reduceEq, Int.reduceNeg, Int.reduceAdd, Int.reduceSub, Int.reduceMul, ↓reduceIte, Int.reduceBEq, Int.reduceBNe, h6q]
          refine copyEarV_c ⟨sl, ts, keptL rs⟩ (by simp only; omega) (by simp only; omega) _ _ fun x3 x4 => ?_
          simp only [List.append_assoc, List.cons_append, List.nil_append, List.length_append, List.length_cons, List.length_nil, Nat.zero_add, Nat.reduceAdd, Nat.add_assoc]
          simp -implicitDefEqProofs (maxSteps := 2000000) (disch := omega) only [go_sem, reduceCtorEq, Nat.reduceAdd, Nat.reduceSub, Nat.reduceMul, Nat.reduceLT, Nat.reduceLeDiff, Nat.reduceEqDiff, Nat.reduceBEq, Int.reduceToNat, Int.reduceLT, Int.reduceLE, Int.reduceEq, Int.reduceNeg, Int.reduceAdd, Int.reduceSub, Int.reduceMul, ↓reduceIte, Int.reduceBEq, Int.reduceBNe, h6q]
          refine ARun.loopA (α := Nat × List Rng) (fun a => ts.length - a.1) (fun a τ => τ = A2 ++ [.dead, .dead, c0, x3, x4, .vec 2 (a.2.map Rng.av), .vec 6 ((keptL rs).map Rd.av), .cells [.int .i64 sl, .vec (A2.length + 5) ts.length, .vec (A2.length + 6) (keptL rs).length]] ∧ a.1 ≤ ts.length ∧ a.2.length = ts.length ∧ (∀ i : Nat, i < a.1 → a.2[i]? = (ts[i]?).map (shT c)) ∧ (∀ i : Nat, a.1 ≤ i → a.2[i]? = ts[i]?)) (fun a => [(20, .int .i64 a.1)]) (0, ts) (by simp [upd, ins, subF, lookA]) ⟨rfl, by simp, rfl, fun i hi => absurd hi (by simp), fun i _ => rfl⟩ ?_
          rintro ⟨i, X2⟩ τ ⟨rfl, hi, hX2, hX3, hX4⟩ ih
          simp only at hi hX2 hX3 hX4 ih ⊢
          by_cases hlt : i < ts.length
          · have hti : idx (ts.map Rng.av) (i : Int) = some ts[i].av := by rw [idx_nat hlt]
            have hXi : (X2.map Rng.av)[i]? = some ts[i].av := by rw [List.getElem?_map, hX4 i (Nat.le_refl _), List.getElem?_eq_getElem hlt]; rfl
            have hb := htn _ (List.getElem_mem hlt)
            have hn1 : ∀ k : Nat, k < i + 1 → (X2.set i (shT c ts[i]))[k]? = (ts[k]?).map (shT c) := fun k hk => by
              by_cases hki : k = i
              · subst hki
                rw [List.getElem?_set_self (by omega), List.getElem?_eq_getElem hlt]; rfl
              · rw [List.getElem?_set_ne (by omega)]; exact hX3 k (by omega)
            have hn2 : ∀ k : Nat, i + 1 ≤ k → (X2.set i (shT c ts[i]))[k]? = ts[k]? := fun k hk => by
              rw [List.getElem?_set_ne (by omega)]; exact hX4 k (by omega)
            generalize ts[i] = y at hti hXi hb hn1 hn2
            obtain ⟨y1, y2⟩ := y
            have hset : (X2.map Rng.av).set i (.agg [.int .i64 (y1 + c), .int .i64 (y2 + c)]) = (X2.set i ⟨y1 + c, y2 + c⟩).map Rng.av := by rw [List.map_set]; rfl
            simp only at hb
            simp only [shT] at hn1 hn2
            simp only [Rng.av] at hti hXi
            clear hX3 hX4 hS hPQ htn hkn hck hP
            refine ev_sound (Try.envOK 278 Try.ord7 fs21 fs21_ok) (n := 1000) (by kernel_rfl) ?_
            simp -implicitDefEqProofs (maxSteps := 2000000) (disch := omega) only [go_sem, reduceCtorEq, Nat.reduceAdd, Nat.reduceSub, Nat.reduceMul, Nat.reduceLT, Nat.reduceLeDiff, Nat.reduceEqDiff, Nat.reduceBEq, Int.reduceToNat, Int.reduceLT, Int.reduceLE, Int.reduceEq, Int.reduceNeg, Int.reduceAdd, Int.reduceSub, Int.reduceMul, ↓reduceIte, Int.reduceBEq, Int.reduceBNe, h6q, hti, hXi, hX2, hset, Rng.av]
            exact (ih (i + 1, X2.set i ⟨y1 + c, y2 + c⟩) _ (by simp only; omega) ⟨rfl, by simp only; omega, by simpa using hX2, hn1, hn2⟩).castS rfl (by simp [upd, ins, subF, lookA])
          · have hie : i = ts.length := by omega
            subst hie
            clear ih hlt hi hX4
            have hXe : X2 = ts.map (shT c) := by
              apply List.ext_getElem?
              intro k
              rw [List.getElem?_map]
              by_cases hk : k < ts.length
              · exact hX3 k hk
              · rw [List.getElem?_eq_none (by omega), List.getElem?_eq_none (by omega)]; rfl
            have hSa := hS.a
            have hSb := hS.b
            have hSn := hS.n
            have hSm := hS.m
            have hSl := hS.len
            have hbd := hS.bd
            simp only at hSa hSb hSn hSm hSl
            rw [← hXe] at hSb hSm
            clear hS hX3 hXe hPQ htn hkn hck hP
            refine ev_sound (Try.envOK 278 Try.ord7 fs21 fs21_ok) (n := 1000) (by kernel_rfl) ?_
            simp -implicitDefEqProofs (maxSteps := 2000000) (disch := omega) only [go_sem, reduceCtorEq, Nat.reduceAdd, Nat.reduceSub, Nat.reduceMul, Nat.reduceLT, Nat.reduceLeDiff, Nat.reduceEqDiff, Nat.reduceBEq, Int.reduceToNat, Int.reduceLT, Int.reduceLE, Int.reduceEq, Int.reduceNeg, Int.reduceAdd, Int.reduceSub, Int.reduceMul, ↓reduceIte, Int.reduceBEq, Int.reduceBNe, h6q, hSa]
            refine ACalls.freezeA (A2.length + 7) 1 (xs := X2.map Rng.av) (by rw [hget_at]; rfl) rfl (by rw [hget_at]; rfl) (by simpa using hX2) ?_
            simp only [hset_at0, hset_at, List.set_cons_succ, List.set_cons_zero]
            refine ACalls.freezeA (A2.length + 7) 2 (xs := (keptL rs).map Rd.av) (by rw [hget_at]; rfl) rfl (by rw [hget_at]; rfl) (by simp) ?_
            simp only [hset_at0, hset_at, List.set_cons_succ, List.set_cons_zero]
            refine PureV.weaken (l' := [(⟨sl, X2, keptL rs⟩ : Ear).av]) (by simp [wkL, wk, wk1, wk0, Ear.av]) (tones_p ⟨sl, X2, keptL rs⟩ (by simp only; omega) (by simp only; omega)) _ _ ?_
            rw [hSb]
            have hBl : (A'.map (shT c)).length = ts.length := by rw [List.length_map]; exact hSl
            have hBi : ∀ (i : Nat) (h : i < A'.length), idx ((A'.map (shT c)).map Rng.av) (i : Int) = some (shT c A'[i]).av := fun i h => by
              rw [idx_nat (by simpa using h)]; simp
            generalize A'.map (shT c) = B' at hBl hBi ⊢
            simp -implicitDefEqProofs (maxSteps := 2000000) (disch := omega) only [go_sem, reduceCtorEq, Nat.reduceAdd, Nat.reduceSub, Nat.reduceMul, Nat.reduceLT, Nat.reduceLeDiff, Nat.reduceEqDiff, Nat.reduceBEq, Int.reduceToNat, Int.reduceLT, Int.reduceLE, Int.reduceEq, Int.reduceNeg, Int.reduceAdd, Int.reduceSub, Int.reduceMul, ↓reduceIte, Int.reduceBEq, Int.reduceBNe, h6q, hPl, hSa, hSn, hSm, hSl, hBl]
            clear hSa hSb hSn hSm
            generalize A2 ++ (_ :: _ :: _ :: _ :: _ :: _ :: _ :: _ :: []) = τ9
            refine ARun.forG (Try.envOK 278 Try.ord7 fs21 fs21_ok) A'.length (fun _ => True) (fun i => [(25, .int .i64 i)]) (fun _ _ => τ9) [] (by kernel_rfl) (by kernel_rfl) rfl (by simp [upd, ins, subF, lookA]) trivial ?_ ?_
            · intro K Q' hK i j3 hi _ ih
              have hAi : idx (A'.map Rng.av) (i : Int) = some A'[i].av := by rw [idx_nat hi]
              have hBi := hBi i hi
              have hb := hbd _ (List.getElem_mem hi)
              clear hbd
              generalize A'[i] = z at hAi hBi hb
              obtain ⟨z1, z2⟩ := z
              simp only [Rng.av, shT] at hAi hBi hb
              simp -implicitDefEqProofs (maxSteps := 2000000) (disch := omega) only [go_sem, reduceCtorEq, Nat.reduceAdd, Nat.reduceSub, Nat.reduceMul, Nat.reduceLT, Nat.reduceLeDiff, Nat.reduceEqDiff, Nat.reduceBEq, Int.reduceToNat, Int.reduceLT, Int.reduceLE, Int.reduceEq, Int.reduceNeg, Int.reduceAdd, Int.reduceSub, Int.reduceMul, ↓reduceIte, Int.reduceBEq, Int.reduceBNe, hAi, hBi, hPl, hSl, Rng.av]
              exact (ih trivial j3).castS rfl (by simp [upd, ins, subF, lookA])
            · intro j3 _
              clear hBi hbd
              simp -implicitDefEqProofs (maxSteps := 2000000) (disch := omega) only [go_sem, reduceCtorEq, Nat.reduceAdd, Nat.reduceSub, Nat.reduceMul, Nat.reduceLT, Nat.reduceLeDiff, Nat.reduceEqDiff, Nat.reduceBEq, Int.reduceToNat, Int.reduceLT, Int.reduceLE, Int.reduceEq, Int.reduceNeg, Int.reduceAdd, Int.reduceSub, Int.reduceMul, ↓reduceIte, Int.reduceBEq, Int.reduceBNe]
end Go.Proofs
